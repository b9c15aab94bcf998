/- The function awake of the statements of layer 9 returns true. Conditions: none. -/
import Derived.Test.YthhdameaihclmaaMv
namespace Go.Proofs.Ythhdameaihclmaa
open Go.RowKit Sk

def ws1 : List Wr := [⟨1, ⟨#[97]⟩, ⟨#[120]⟩⟩, ⟨1, ⟨#[98]⟩, ⟨#[121]⟩⟩]
def ws2 : List Wr := [⟨2, ⟨#[97]⟩, ⟨#[]⟩⟩]
def R3 : List Rw := [⟨⟨#[97]⟩, 3, 2, ⟨#[]⟩⟩, ⟨⟨#[97]⟩, 1, 1, ⟨#[120]⟩⟩, ⟨⟨#[98]⟩, 2, 1, ⟨#[121]⟩⟩]
theorem ok1 : okB 1 ws1 = true := by decide
theorem ok2 : okB 3 ws2 = true := by decide
theorem ord3 : Sk.Ord R3 := by simp [Sk.Ord, R3, ah, tl, Op.bytesLess]
theorem perm3 : (([] ++ rowsOf 1 ws1) ++ rowsOf 3 ws2).Perm R3 := by
  simp only [rowsOf, ws1, ws2, rowOf, R3, List.cons_append, List.nil_append, Int.reduceAdd]
  exact (List.perm_middle (l₁ := [_, _]) (l₂ := []))
theorem get3 : getR R3 ⟨#[97]⟩ 2 = some ⟨⟨#[97]⟩, 1, 1, ⟨#[120]⟩⟩ := by simp [getR, R3, place, ah, tl, Op.bytesLess]
theorem st3 : (rowsOf 3 ws2).foldl stI ((rowsOf 1 ws1).foldl stI ⟨0, 0, 0⟩) = ⟨53, 1, 3⟩ := by
  simp [rowsOf, ws1, ws2, rowOf, stI, ByteArray.size]
  decide
theorem wrs1 {w : World} {g : Nat} (h : w.heap[g]? = some (.cells #[.int .i64 1, .string ⟨#[97]⟩, .string ⟨#[120]⟩, .int .i64 1, .string ⟨#[98]⟩, .string ⟨#[121]⟩] 80 (0, 0))) : Wrs w (some ⟨g, 0, none⟩) ws1 := by
  refine .inr ⟨g, 0, rfl, fun k x hk => ?_⟩
  match k, hk with
  | 0, hk => cases hk; exact ⟨cell_of h 0, cell_of h 1, cell_of h 2⟩
  | 1, hk => cases hk; exact ⟨cell_of h 3, cell_of h 4, cell_of h 5⟩
  | k + 2, hk => simp [ws1] at hk
theorem wrs2 {w : World} {g : Nat} (h : w.heap[g]? = some (.cells #[.int .i64 2, .string ⟨#[97]⟩, .string ⟨#[]⟩] 80 (0, 0))) : Wrs w (some ⟨g, 0, none⟩) ws2 := by
  refine .inr ⟨g, 0, rfl, fun k x hk => ?_⟩
  match k, hk with
  | 0, hk => cases hk; exact ⟨cell_of h 0, cell_of h 1, cell_of h 2⟩
  | k + 1, hk => simp [ws2] at hk

theorem ints5 {S : Nat → Prop} {w W : World} (h : Off S w W) {g : Nat} (hg : w.heap[g]? = some (.cells #[.int .i64 5] 3 (0, 0))) (hs : ¬ S g) : Ints_ W (some ⟨g, 0, none⟩) [5] := by
  have hb := (h.block g (Array.getElem?_eq_some_iff.1 hg).1 hs).trans hg
  refine .inr ⟨g, 0, rfl, fun k x hk => ?_⟩
  match k, hk with
  | 0, hk => cases hk; exact cell_of hb 0
  | k + 1, hk => simp at hk
set_option maxRecDepth 100000 in
set_option maxHeartbeats 2000000 in
theorem awake9_any (w : World) : Calls Try.prog 20 #[] w fun e w' => e = .returned (.bool true) ∧ Below w.heap.size w w' := by
  have HNW := Lib.hid (new_tk w w (Nat.le_refl _))
  go_enter Try.func20, Try.ntmps20
  go_wp2_with fail
  refine HNW.out.mono ?_
  rintro e1 w1 ⟨rfl, T1, hb1, hz1⟩
  have HT1 := Lib.hid T1
  have HB1 := Lib.hid hb1
  clear T1 hb1
  have HZ1 := Lib.hid hz1
  clear hz1
  have hA1 : Below w1.heap.size w1 (w1.alloc (.cells #[.int .i64 1, .string ⟨#[97]⟩, .string ⟨#[120]⟩, .int .i64 1, .string ⟨#[98]⟩, .string ⟨#[121]⟩] 80)) := (Below.refl _ _).alloc (Nat.le_refl _) _
  have P1 := add_tk (m := 0) (HT1.out.on hA1) (below_step HB1.out hA1 (Nat.le_refl _)) ⟨by decide, by decide⟩ (by decide) (some ⟨w1.heap.size, 0, none⟩) 2 1 ws1 none 0 [] (by simp) (wrs1 (heap_alloc_new _ _)) ok1 (fun r hr => by cases hr) (fun _ _ => .inl rfl) (fun x hx => by cases hx) (by simp)
  have HP1 := Lib.hid P1
  clear P1
  go_wp2_with fail
  refine HP1.out.mono ?_
  rintro e2 w2 ⟨rfl, ns2, T2, -, -, hb2⟩
  have HT2 := Lib.hid T2
  have HB2 := Lib.hid hb2
  clear T2 hb2
  have hA2 : Below w2.heap.size w2 ((w2.alloc (.cells #[.int .i64 2, .string ⟨#[97]⟩, .string ⟨#[]⟩] 80)).alloc (.cells #[.int .i64 5] 3)) := ((Below.refl _ _).alloc (Nat.le_refl _) _).alloc (by simp) _
  have P2 := add_tk (m := 1) (HT2.out.on hA2) (HB2.out.trans (hA2.mono HB2.out.size)) (Sm.add (m := 0) ⟨by decide, by decide⟩ ok1) (by decide) (some ⟨w2.heap.size, 0, none⟩) 1 3 ws2 (some ⟨w2.heap.size + 1, 0, none⟩) 1 [5] (by simp [rowsOf, ws1]) (wrs2 (heap_alloc2_old w2 _ _)) ok2
    (by intro r hr x hx; simp only [rowsOf, ws1, ws2, rowOf, List.nil_append, List.mem_cons, List.not_mem_nil, or_false] at hr hx; subst hx; rcases hr with rfl | rfl <;> decide)
    (fun W hW => ints5 hW (heap_alloc2_new w2 _ _) (SL.typ' (HT2.out.on hA2).tb (heap_alloc2_new w2 _ _) (by decide) (by decide))) (by simp) (by simp)
  have HP2 := Lib.hid P2
  clear P2
  go_wp2_with fail
  refine HP2.out.mono ?_
  rintro e3 w3 ⟨rfl, ns3, T3, -, -, hb3⟩
  rw [st3] at T3
  have T3' : TK w w.heap.size R3 ⟨53, 1, 3⟩ ns3 w3 := ⟨T3.tb, T3.perm.trans perm3, T3.ge⟩
  have hrs : rs ns3 = R3 := ord_uniq T3.tb.ord ord3 T3'.perm
  have G := get_tk T3' (by simp [R3]) ⟨#[97]⟩ 2
  rw [hrs, get3] at G
  simp only [seekV, rowC] at G
  have HG := Lib.hid G
  have HT3 := Lib.hid T3'
  have HB3 := Lib.hid hb3
  clear G T3 T3' hb3 hrs
  have HRM := Lib.hid (fun W (hW : Below w3.heap.size w3 W) => room_any W _ _ _ _ ns3 (HT3.out.on hW).tb)
  have HLE := Lib.hid (fun W (hW : Below w3.heap.size w3 W) => least_any W _ _ _ _ ns3 (HT3.out.on hW).tb)
  have HGR := Lib.hid (fun W (hW : Below w3.heap.size w3 W) => greatest_any W _ _ _ _ ns3 (HT3.out.on hW).tb)
  go_wp2_with (first
    | (go_at_call 25; refine HG.out.mono ?_; rintro e4 w4 ⟨rfl, hb4⟩)
    | (go_at_call 35; refine (HRM.out _ (hb4.alloc hb4.size _)).mono ?_; rintro e5 w5 ⟨rfl, rfl⟩)
    | (go_at_call 36; refine (HLE.out _ (hb4.alloc hb4.size _)).mono ?_; rintro e6 w6 ⟨rfl, rfl⟩)
    | (go_at_call 37; refine (HGR.out _ (hb4.alloc hb4.size _)).mono ?_; rintro e7 w7 ⟨rfl, rfl⟩))
  go_ret
  exact ⟨rfl, HB3.out.trans ((hb4.alloc hb4.size _).mono HB3.out.size)⟩
end Go.Proofs.Ythhdameaihclmaa
