/- Pick of package pick at the sample version. Conditions: that its tables lie in memory. -/
import Derived.Test.YthhdameaihclmaaPj
namespace Go.Proofs.Ythhdameaihclmaa
open Go.RowKit Sk

/-- Block g holds tables that begin with xs. -/
def RowAt (w : World) (g : Nat) (xs : List Value) : Prop := ∃ cur, w.heap[g]? = some (.cells cur 69 (0, 0)) ∧ ∀ (i : Nat) (u : Value), xs[i]? = some u → cur[i]? = some u
theorem RowAt.on {w w' : World} {g : Nat} {xs : List Value} (h : RowAt w g xs) (hb : Below w.heap.size w w') : RowAt w' g xs := by
  obtain ⟨cur, h1, h2⟩ := h
  exact ⟨cur, heap_on hb h1, h2⟩
theorem RowAt.set {w : World} {g B i : Nat} {v : Value} {xs : List Value} (h : RowAt w g xs) {cs : Array Value} (hB : w.heap[B]? = some (.cells cs 94 (0, 0))) : RowAt (w.setCell ⟨B, i, none⟩ v) g xs := by
  obtain ⟨cur, h1, h2⟩ := h
  refine ⟨cur, (Below.heap_setCell w _ _ g (fun e => ?_)).trans h1, h2⟩
  rw [show g = B from e, hB] at h1
  injection h1 with h1
  injection h1 with _ h1
  exact absurd h1 (by decide)
theorem RowAt.at {w : World} {g n : Nat} {cs : Array Value} (h : RowAt w g (cs.toList.take n)) : AtC w g n cs := by
  obtain ⟨cur, h1, h2⟩ := h
  intro i v hi hv
  rw [cell_of h1]
  refine h2 i v ?_
  rw [List.getElem?_take, if_pos hi]
  simpa using hv
theorem row_of_own {w : World} {n₀ n : Nat} {v : Value} {xs : List Value} (h : w.ownsRow n₀ 69 7 v n xs) (hn : 0 < n) : ∃ g c, v = .slice (some ⟨g, 0, none⟩) n c ∧ RowAt w g xs := by
  rcases h.2 with ⟨_, h0⟩ | ⟨g, cap, cur, rfl, hb, hg, h1, h2, h3, h4⟩
  · omega
  · refine ⟨g, cap, rfl, cur, hg, fun i u hu => ?_⟩
    rw [← h4, List.getElem?_take] at hu
    split at hu
    · simpa using hu
    · cases hu

theorem coOne2 (a b : Option Addr) (c d : Nat) : (#[.int .i64 0, .slice a 2 c, .slice b 1 d] : Array Value).all (·.oneCell') = true := by simp [Value.oneCell']
theorem RowAt.over {w W : World} {g B : Nat} {xs : List Value} (h : RowAt w g xs) (ho : OverAt B w W) {cs : Array Value} (hB : w.heap[B]? = some (.cells cs 94 (0, 0))) : RowAt W g xs := by
  obtain ⟨cur, h1, h2⟩ := h
  refine ⟨cur, (ho.block g (fun e => ?_)).trans h1, h2⟩
  rw [e, hB] at h1
  injection h1 with h1
  injection h1 with _ h1
  exact absurd h1 (by decide)
theorem PK.set2 {w wr : World} {ver : Array Value} {B6 : Nat} {k : Int} {v : Value} (h : PK w ver B6 k v wr) (v' : Value) :
    (wr.setCell ⟨B6, 2, none⟩ v').heap[B6]? = some (.cells (coC k v v') 94 (0, 0)) ∧ (wr.setCell ⟨B6, 2, none⟩ v').heap[w.heap.size + 1 + 1]? = some (.cells (coC 0 (.slice none 0 0) (.slice none 0 0)) 94 (0, 0)) ∧ Below w.heap.size w (wr.setCell ⟨B6, 2, none⟩ v') := by
  have hlt := h.lt
  refine ⟨?_, (Below.heap_setCell _ _ _ _ (by show w.heap.size + 1 + 1 ≠ B6; omega)).trans h.b4, h.below.setCell (p := ⟨B6, 2, none⟩) (by show w.heap.size ≤ B6; omega) _⟩
  rw [heap_setCell_same _ _ _ _ _ _ h.b6]
  rfl
set_option maxRecDepth 100000 in
set_option maxHeartbeats 4000000 in
theorem pickS_any (w : World) (g0 g1 : Nat) (h0 : w.heap[g0]? = some (.cells cs0 69 (0, 0))) (h1 : w.heap[g1]? = some (.cells cs1 69 (0, 0))) :
    Calls Try.prog 43 #[.agg (verS g0 g1), .agg #[.int .i64 2, .int .i64 100, .int .i64 10]] w fun e w' => ∃ gi ci go co, e = .returned (.tuple #[.agg (coC 0 (.slice (some ⟨gi, 0, none⟩) 2 ci) (.slice (some ⟨go, 0, none⟩) 1 co)), .int .i64 0]) ∧
      AtC w' gi 14 cs0 ∧ AtC w' go 7 cs1 ∧ Below w.heap.size w w' := by
  have HR := Lib.hid (fun W (hW : Below w.heap.size w W) => rightS_any W g0 g1 (heap_on hW h0) (heap_on hW h1))
  have HC := Lib.hid (fun W => pcheck_any W 2 100 10 (by decide) (by decide) (by decide) (by decide) (by decide) (by decide))
  have HD0 := Lib.hid (fun W (hW : Below w.heap.size w W) => dueS_any W g0 g1 (heap_on hW h0))
  have HCH := Lib.hid (fun W gs (hW : Below w.heap.size w W) hs => chosen_S W g1 gs (heap_on hW h1) hs)
  clear h0 h1
  have Q0 := PK0.start w (verS g0 g1)
  unfold Yes verS at *
  unfold opC16 coC at Q0
  have HQ0 := Lib.hid Q0
  clear Q0
  go_enter Try.func43, Try.ntmps43
  go_wp2
  generalize ((w.alloc (.cells #[.int .u64 1, .int .u64 5, .int .u64 9, .slice (some ⟨g0, 0, none⟩) 2 2, .slice (some ⟨g1, 0, none⟩) 2 2, .slice none 0 0, .slice none 0 0] 91)).alloc (.cells #[.int .i64 2, .int .i64 100, .int .i64 10] 98)).alloc (.cells #[.int .i64 0, .slice none 0 0, .slice none 0 0] 94) = W0 at *
  obtain ⟨v0, v1, v2, v3, v4, v5, v6⟩ := PK0.ver HQ0.out
  go_step3
  go_wp2_with (first
    | (go_at_call 47; refine (HR.out _ HQ0.out.below).mono ?_; rintro e1 w1 ⟨rfl, hb1⟩; have HQ1 := Lib.hid (HQ0.out.on hb1); obtain ⟨o0, o1, o2⟩ := PK0.opt HQ1.out; clear hb1)
    | (go_at_call 48; refine (HC.out _).mono ?_; rintro e2 w2 ⟨rfl, hb2⟩; have HQ2 := Lib.hid (HQ1.out.on hb2); clear hb2))
  have hP := PK.start HQ2.out
  unfold coC at hP
  have HP := Lib.hid hP
  clear hP
  have HB6 := Lib.hid (show w.heap.size + 1 + 1 < w2.heap.size from (Array.getElem?_eq_some_iff.1 HQ2.out.b4).1)
  generalize w2.alloc (.cells #[.int .i64 0, .slice none 0 0, .slice none 0 0] 94) = W1 at *
  clear o0 o1 o2 v0 v1 v2 v3 v4 v5 v6
  go_step3
  have q0 : W1.cell? ⟨w2.heap.size, 0, none⟩ = some (.int .i64 0) := cell_of HP.out.b6 0
  have q1 : W1.frozen? ⟨w2.heap.size, 0, none⟩ = false := free_of HP.out.b6 0
  go_wp2
  go_loopg [19] 0 (fun _ _ wr => PK w #[.int .u64 1, .int .u64 5, .int .u64 9, .slice (some ⟨g0, 0, none⟩) 2 2, .slice (some ⟨g1, 0, none⟩) 2 2, .slice none 0 0, .slice none 0 0] w2.heap.size 0 (.slice none 0 0) wr)
  case atStart => first | exact HP.out | exact HP.out.set0 0
  case round =>
    clear HP q0 q1
    have hP := hrel
    clear hrel
    have v0 : wr.cell? ⟨w.heap.size, 0, none⟩ = some (.int .u64 1) := cell_of hP.b0 0
    have v1 : wr.cell? ⟨w.heap.size, 1, none⟩ = some (.int .u64 5) := cell_of hP.b0 1
    have v2 : wr.cell? ⟨w.heap.size, 2, none⟩ = some (.int .u64 9) := cell_of hP.b0 2
    have v3 : wr.cell? ⟨w.heap.size, 3, none⟩ = some (.slice (some ⟨g0, 0, none⟩) 2 2) := cell_of hP.b0 3
    have v4 : wr.cell? ⟨w.heap.size, 4, none⟩ = some (.slice (some ⟨g1, 0, none⟩) 2 2) := cell_of hP.b0 4
    have v5 : wr.cell? ⟨w.heap.size, 5, none⟩ = some (.slice none 0 0) := cell_of hP.b0 5
    have v6 : wr.cell? ⟨w.heap.size, 6, none⟩ = some (.slice none 0 0) := cell_of hP.b0 6
    have o0 : wr.cell? ⟨w.heap.size + 1, 0, none⟩ = some (.int .i64 2) := cell_of hP.b1 0
    have o1 : wr.cell? ⟨w.heap.size + 1, 1, none⟩ = some (.int .i64 100) := cell_of hP.b1 1
    have o2 : wr.cell? ⟨w.heap.size + 1, 2, none⟩ = some (.int .i64 10) := cell_of hP.b1 2
    have s0 : wr.cell? ⟨w2.heap.size, 0, none⟩ = some (.int .i64 0) := cell_of hP.b6 0
    have HP := Lib.hid hP
    clear hP
    go_upto_region 8 with (go_at_call 49; refine (HD0.out _ HP.out.below).mono ?_; rintro e5 w5 ⟨vi, rfl, hr5, hb5⟩; obtain ⟨gi, ci, rfl, hri⟩ := row_of_own hr5 (by decide); have HR5 := Lib.hid hri; clear hri; have HP5 := Lib.hid (HP.out.on hb5); have t0 : w5.cell? ⟨w2.heap.size, 0, none⟩ = some (.int .i64 0) := cell_of HP5.out.b6 0; have t1 : w5.cell? ⟨w2.heap.size, 1, none⟩ = some (.slice none 0 0) := cell_of HP5.out.b6 1; have f0 : w5.frozen? ⟨w2.heap.size, 0, none⟩ = false := free_of HP5.out.b6 0; have f1 : w5.frozen? ⟨w2.heap.size, 1, none⟩ = false := free_of HP5.out.b6 1; clear v0 v1 v2 v3 v4 v5 v6 o0 o1 o2 s0 hr5 hb5)
    have HP6 := Lib.hid (HP5.out.set1 (.slice (some ⟨gi, 0, none⟩) 2 ci))
    have HR6 := Lib.hid (HR5.out.set (i := 1) (v := .slice (some ⟨gi, 0, none⟩) 2 ci) HP5.out.b6)
    clear t0 t1 f0 f1
    generalize w5.setCell ⟨w2.heap.size, 1, none⟩ (.slice (some ⟨gi, 0, none⟩) 2 ci) = w6 at *
    have v4 : w6.cell? ⟨w.heap.size, 4, none⟩ = some (.slice (some ⟨g1, 0, none⟩) 2 2) := cell_of HP6.out.b0 4
    have s0 : w6.cell? ⟨w2.heap.size, 0, none⟩ = some (.int .i64 0) := cell_of HP6.out.b6 0
    have s1 : w6.cell? ⟨w2.heap.size, 1, none⟩ = some (.slice (some ⟨gi, 0, none⟩) 2 ci) := cell_of HP6.out.b6 1
    have hbL : Below w6.heap.size w6 (w6.alloc (.cells #[.slice (some ⟨gi, 0, none⟩) 2 ci] 88)) := (Below.refl _ _).alloc (Nat.le_refl _) _
    have HPL := Lib.hid (HP6.out.on hbL)
    have HRL := Lib.hid (HR6.out.on hbL)
    have HSP := Lib.hid (span1_any (w6.alloc (.cells #[.slice (some ⟨gi, 0, none⟩) 2 ci] 88)) w6.heap.size gi ci (heap_alloc_new _ _) (RowAt.at (n := 14) HRL.out))
    simp only [spC] at HSP
    clear hbL
    go_upto_region 12 with (first
      | (go_at_call 50; refine HSP.out.mono ?_; rintro e7 w7 ⟨rfl, hb7⟩; have HP7 := Lib.hid (HPL.out.on hb7); have HR7 := Lib.hid (HRL.out.on hb7); clear hb7))
    have hbA : Below w7.heap.size w7 (w7.alloc (.cells #[.int .u64 0, .int .i64 0, .int .i64 0, .string ⟨#[97]⟩, .string ⟨#[100]⟩, .int .u64 0, .int .u64 0] 69)) := (Below.refl _ _).alloc (Nat.le_refl _) _
    have HP8 := Lib.hid (HP7.out.on hbA)
    have HR8 := Lib.hid (HR7.out.on hbA)
    have HS8 := Lib.hid (show (w7.alloc (.cells #[.int .u64 0, .int .i64 0, .int .i64 0, .string ⟨#[97]⟩, .string ⟨#[100]⟩, .int .u64 0, .int .u64 0] 69)).heap[w7.heap.size]? = some (.cells (spC 2) 69 (0, 0)) from heap_alloc_new _ _)
    clear hbA v4 s0 s1
    generalize w7.alloc (.cells #[.int .u64 0, .int .i64 0, .int .i64 0, .string ⟨#[97]⟩, .string ⟨#[100]⟩, .int .u64 0, .int .u64 0] 69) = W8 at *
    have v4 : W8.cell? ⟨w.heap.size, 4, none⟩ = some (.slice (some ⟨g1, 0, none⟩) 2 2) := cell_of HP8.out.b0 4
    have s0 : W8.cell? ⟨w2.heap.size, 0, none⟩ = some (.int .i64 0) := cell_of HP8.out.b6 0
    go_upto_region 13 with (go_at_call 51; refine (HCH.out _ _ HP8.out.below HS8.out).mono ?_; rintro e9 w9 ⟨vo, rfl, hr9, hb9⟩; obtain ⟨go, co, rfl, hro⟩ := row_of_own hr9 (by decide); have HO9 := Lib.hid hro; have HP9 := Lib.hid (HP8.out.on hb9); have HR9 := Lib.hid (HR8.out.on hb9); have t0 : w9.cell? ⟨w2.heap.size, 2, none⟩ = some (.slice none 0 0) := cell_of HP9.out.b6 2; have f0 : w9.frozen? ⟨w2.heap.size, 2, none⟩ = false := free_of HP9.out.b6 2; clear hro hr9 hb9 v4 s0)
    have hfin := HP9.out.set2 (.slice (some ⟨go, 0, none⟩) 1 co)
    have HFIN := Lib.hid hfin
    have HO10 := Lib.hid (HO9.out.set (i := 2) (v := .slice (some ⟨go, 0, none⟩) 1 co) HP9.out.b6)
    have HR10 := Lib.hid (HR9.out.set (i := 2) (v := .slice (some ⟨go, 0, none⟩) 1 co) HP9.out.b6)
    clear t0 f0 hfin
    generalize w9.setCell ⟨w2.heap.size, 2, none⟩ (.slice (some ⟨go, 0, none⟩) 1 co) = W10 at *
    have s0 : W10.cell? ⟨w2.heap.size, 0, none⟩ = some (.int .i64 0) := cell_of HFIN.out.1 0
    have s1 : W10.cell? ⟨w2.heap.size, 1, none⟩ = some (.slice (some ⟨gi, 0, none⟩) 2 ci) := cell_of HFIN.out.1 1
    have s2 : W10.cell? ⟨w2.heap.size, 2, none⟩ = some (.slice (some ⟨go, 0, none⟩) 1 co) := cell_of HFIN.out.1 2
    have HX := Lib.hid HFIN.out.2.1
    unfold coC at HX
    go_wp2_with (refine wpList_store_over rfl 94 _ _ rfl (w.heap.size + 1 + 1) 94 #[.int .i64 0, .slice none 0 0, .slice none 0 0] #[.int .i64 0, .slice (some ⟨gi, 0, none⟩) 2 ci, .slice (some ⟨go, 0, none⟩) 1 co] HX.out rfl rfl rfl Try.size94 (coOne2 _ _ _ _) ?_; intro W11 hO11 hG11; have HO11 := Lib.hid hO11; have HG11 := Lib.hid hG11; clear hO11 hG11)
    try rw [Exit.noGoto_ret]
    refine bodyPost_ret (results_cell_tmp rfl _ _ (w.heap.size + 1 + 1) 94 #[.int .i64 0, .slice (some ⟨gi, 0, none⟩) 2 ci, .slice (some ⟨go, 0, none⟩) 1 co] (0, 0) _ rfl HG11.out Try.underlying94 rfl Try.size94) rfl ⟨gi, ci, go, co, rfl, ?_, ?_, ?_⟩
    · exact RowAt.at (n := 14) (HR10.out.over HO11.out HX.out)
    · exact RowAt.at (n := 7) (HO10.out.over HO11.out HX.out)
    · exact HO11.out.below (by omega) HFIN.out.2.2
end Go.Proofs.Ythhdameaihclmaa
