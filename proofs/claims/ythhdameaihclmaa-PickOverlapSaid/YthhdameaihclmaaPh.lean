/- chosen of package pick, and the closures that awake's calls give it. Conditions: that the lists lie in memory. -/
import Derived.Test.YthhdameaihclmaaPg
import Derived.Test.YthhdameaihclmaaMr
namespace Go.Proofs.Ythhdameaihclmaa
open Go.RowKit Sk

def sp : Mt := ⟨0, 0, 0, ⟨#[97]⟩, ⟨#[100]⟩, 0, 0⟩
theorem ov3 : ovB m3 sp = true := by simp [ovB, m3, sp, Op.bytesLess]
theorem ov4 : ovB m4 sp = false := by simp [ovB, m4, sp, Op.bytesLess]

set_option maxHeartbeats 1000000 in
theorem pleases_any (w : World) (m : Mt) (gs : Nat) (hs : w.heap[gs]? = some (.cells (spC 2) 69 (0, 0))) :
    Calls Try.prog 52 #[.agg #[.int .u64 m.num, .int .i64 m.size, .int .i64 m.rows, .string m.first, .string m.last, .int .u64 m.least, .int .u64 m.greatest], .pointer (some ⟨gs, 0, none⟩)] w fun e w' => e = .returned (.bool (ovB m sp)) ∧ Below w.heap.size w w' := by
  have hb := (Below.refl w.heap.size w).alloc (Nat.le_refl _) (.cells #[.int .u64 m.num, .int .i64 m.size, .int .i64 m.rows, .string m.first, .string m.last, .int .u64 m.least, .int .u64 m.greatest] 69)
  have HS := Lib.hid (heap_on hb hs)
  have HB := Lib.hid hb
  have HO := Lib.hid (over_any (w.alloc (.cells #[.int .u64 m.num, .int .i64 m.size, .int .i64 m.rows, .string m.first, .string m.last, .int .u64 m.least, .int .u64 m.greatest] 69)) m sp)
  simp only [sp] at HO
  have hne := (Array.getElem?_eq_some_iff.1 hs).1
  have s0 : w.cell? ⟨gs, 0, none⟩ = some (.int .u64 0) := cell_of hs 0
  have s1 : w.cell? ⟨gs, 1, none⟩ = some (.int .i64 0) := cell_of hs 1
  have s2 : w.cell? ⟨gs, 2, none⟩ = some (.int .i64 0) := cell_of hs 2
  have s3 : w.cell? ⟨gs, 3, none⟩ = some (.string ⟨#[97]⟩) := cell_of hs 3
  have s4 : w.cell? ⟨gs, 4, none⟩ = some (.string ⟨#[100]⟩) := cell_of hs 4
  have s5 : w.cell? ⟨gs, 5, none⟩ = some (.int .u64 0) := cell_of hs 5
  have s6 : w.cell? ⟨gs, 6, none⟩ = some (.int .u64 0) := cell_of hs 6
  obtain ⟨q, hq⟩ : ∃ q, ovB m sp = q := ⟨_, rfl⟩
  have hq' := hq
  simp only [sp] at hq'
  rw [hq'] at HO
  rw [hq]
  clear hs hb hq hq'
  go_enter Try.func52, Try.ntmps52
  go_wp2_with (go_at_call 27; refine HO.out.mono ?_; rintro e1 w1 ⟨rfl, hb1⟩)
  go_ret
  exact ⟨rfl, below_step HB.out hb1 (Nat.le_refl _)⟩

set_option maxHeartbeats 1000000 in
theorem chosen_none (w : World) (f : Value) :
    Calls Try.prog 51 #[.slice none 0 0, f] w fun e w' => e = .returned (.slice none 0 0) ∧ w' = w := by
  go_enter Try.func51, Try.ntmps51
  go_wp2
  go_loop [5, 10] (fun v j => v = .slice none 0 0 ∧ j = .int .i64 0) (fun _ _ => 0)
  case atStart => exact ⟨rfl, rfl⟩
  case round =>
    obtain ⟨rfl, rfl⟩ := hrel
    go_wp2
    go_ret
    exact ⟨rfl, rfl⟩
def m3L : List Value := [.int .u64 3, .int .i64 60, .int .i64 1, .string ⟨#[97]⟩, .string ⟨#[97]⟩, .int .u64 1, .int .u64 1]
theorem m3One : m3L.all (·.oneCell') = true := by simp [m3L, Value.oneCell']
theorem news_m3 (W : World) : ∀ j u, m3L[j]? = some u → (W.alloc (.cells #[.int .u64 3, .int .i64 60, .int .i64 1, .string ⟨#[97]⟩, .string ⟨#[97]⟩, .int .u64 1, .int .u64 1] 69)).cell? ((⟨W.heap.size, 0, none⟩ : Addr).add j) = some u := fun j u hu => by
  rw [Addr.add_mid, Nat.zero_add, cell_of (heap_alloc_new W _)]
  match j with
  | 0 => simpa [m3L] using hu
  | 1 => simpa [m3L] using hu
  | 2 => simpa [m3L] using hu
  | 3 => simpa [m3L] using hu
  | 4 => simpa [m3L] using hu
  | 5 => simpa [m3L] using hu
  | 6 => simpa [m3L] using hu
  | j + 7 => simp [m3L] at hu

set_option maxRecDepth 100000 in
set_option maxHeartbeats 4000000 in
theorem chosen_S (w : World) (g1 gs : Nat) (h1 : w.heap[g1]? = some (.cells cs1 69 (0, 0))) (hs : w.heap[gs]? = some (.cells (spC 2) 69 (0, 0))) :
    Calls Try.prog 51 #[.slice (some ⟨g1, 0, none⟩) 2 2, .func (.func 52) #[] #[.pointer (some ⟨gs, 0, none⟩)]] w fun e w' => ∃ v, e = .returned v ∧ w'.ownsRow w.heap.size 69 7 v 1 m3L ∧ Below w.heap.size w w' := by
  obtain ⟨i0, hi, hz0, hz1, hz2⟩ := info_parts Try.info69
  have H1 := Lib.hid h1
  have HP3 := Lib.hid (fun W (hW : Below w.heap.size w W) => pleases_any W m3 gs (heap_on hW hs))
  have HP4 := Lib.hid (fun W (hW : Below w.heap.size w W) => pleases_any W m4 gs (heap_on hW hs))
  rw [ov3] at HP3
  rw [ov4] at HP4
  simp only [m3] at HP3
  simp only [m4] at HP4
  clear h1 hs
  go_enter Try.func51, Try.ntmps51
  go_wp2
  go_loopw [5, 10] (fun v j wr => (v = .slice none 0 0 ∧ j = .int .i64 0 ∧ Below w.heap.size w wr) ∨ (j = .int .i64 1 ∧ wr.ownsRow w.heap.size 69 7 v 1 m3L ∧ Below w.heap.size w wr) ∨ (j = .int .i64 2 ∧ wr.ownsRow w.heap.size 69 7 v 1 m3L ∧ Below w.heap.size w wr)) (fun _ j _ => 2 - (intOf j).toNat)
  case atStart => exact .inl ⟨rfl, rfl, Below.refl _ _⟩
  case round =>
    rcases hrel with ⟨rfl, rfl, hb⟩ | ⟨rfl, hrow, hb⟩ | ⟨rfl, hrow, hb⟩
    · obtain ⟨w2, rfl⟩ : ∃ w2, w2 = wr := ⟨_, rfl⟩
      have c0 : w2.cell? ⟨g1, 0, none⟩ = some (Value.int .u64 3) := cell_of (heap_on hb H1.out) 0
      have c1 : w2.cell? ⟨g1, 1, none⟩ = some (Value.int .i64 60) := cell_of (heap_on hb H1.out) 1
      have c2 : w2.cell? ⟨g1, 2, none⟩ = some (Value.int .i64 1) := cell_of (heap_on hb H1.out) 2
      have c3 : w2.cell? ⟨g1, 3, none⟩ = some (Value.string ⟨#[97]⟩) := cell_of (heap_on hb H1.out) 3
      have c4 : w2.cell? ⟨g1, 4, none⟩ = some (Value.string ⟨#[97]⟩) := cell_of (heap_on hb H1.out) 4
      have c5 : w2.cell? ⟨g1, 5, none⟩ = some (Value.int .u64 1) := cell_of (heap_on hb H1.out) 5
      have c6 : w2.cell? ⟨g1, 6, none⟩ = some (Value.int .u64 1) := cell_of (heap_on hb H1.out) 6
      have HB := Lib.hid (hb.alloc hb.size (.cells #[.int .u64 3, .int .i64 60, .int .i64 1, .string ⟨#[97]⟩, .string ⟨#[97]⟩, .int .u64 1, .int .u64 1] 69))
      have HA := Lib.hid (heap_alloc_new w2 (.cells #[.int .u64 3, .int .i64 60, .int .i64 1, .string ⟨#[97]⟩, .string ⟨#[97]⟩, .int .u64 1, .int .u64 1] 69))
      clear hb
      go_upto_region 5 with fail
      clear c0 c1 c2 c3 c4 c5 c6
      generalize w2.alloc (.cells #[.int .u64 3, .int .i64 60, .int .i64 1, .string ⟨#[97]⟩, .string ⟨#[97]⟩, .int .u64 1, .int .u64 1] 69) = W3 at *
      have d0 : W3.cell? ⟨w2.heap.size, 0, none⟩ = some (Value.int .u64 3) := cell_of HA.out 0
      have d1 : W3.cell? ⟨w2.heap.size, 1, none⟩ = some (Value.int .i64 60) := cell_of HA.out 1
      have d2 : W3.cell? ⟨w2.heap.size, 2, none⟩ = some (Value.int .i64 1) := cell_of HA.out 2
      have d3 : W3.cell? ⟨w2.heap.size, 3, none⟩ = some (Value.string ⟨#[97]⟩) := cell_of HA.out 3
      have d4 : W3.cell? ⟨w2.heap.size, 4, none⟩ = some (Value.string ⟨#[97]⟩) := cell_of HA.out 4
      have d5 : W3.cell? ⟨w2.heap.size, 5, none⟩ = some (Value.int .u64 1) := cell_of HA.out 5
      have d6 : W3.cell? ⟨w2.heap.size, 6, none⟩ = some (Value.int .u64 1) := cell_of HA.out 6
      go_wp2_with (first
        | (go_at_call 52; refine (HP3.out _ HB.out).mono ?_; rintro e4 w4 ⟨rfl, hb4⟩
           have e0 : w4.cell? ⟨w2.heap.size, 0, none⟩ = some (Value.int .u64 3) := cell_on hb4 d0
           have e1 : w4.cell? ⟨w2.heap.size, 1, none⟩ = some (Value.int .i64 60) := cell_on hb4 d1
           have e2 : w4.cell? ⟨w2.heap.size, 2, none⟩ = some (Value.int .i64 1) := cell_on hb4 d2
           have e3 : w4.cell? ⟨w2.heap.size, 3, none⟩ = some (Value.string ⟨#[97]⟩) := cell_on hb4 d3
           have e4 : w4.cell? ⟨w2.heap.size, 4, none⟩ = some (Value.string ⟨#[97]⟩) := cell_on hb4 d4
           have e5 : w4.cell? ⟨w2.heap.size, 5, none⟩ = some (Value.int .u64 1) := cell_on hb4 d5
           have e6 : w4.cell? ⟨w2.heap.size, 6, none⟩ = some (Value.int .u64 1) := cell_on hb4 d6
           have HB4 := Lib.hid (below_step HB.out hb4 (Nat.le_refl _))
           clear hb4 d0 d1 d2 d3 d4 d5 d6)
        | (at_builtin; refine wpList_append_own _ rfl _ _ 88 rfl w.heap.size 69 i0 _ 7 72 Try.underlying88 hi hz0 hz1 hz2 rfl (by decide) (.slice none 0 0) 0 [] rfl (World.ownsRow_nil _ _ _ _) ⟨w4.heap.size, 0, none⟩ 1 1 m3L rfl rfl (news_m3 w4) (fun u hu => List.all_eq_true.1 m3One u hu) ?_ ?_ ?_ ?_
           · simp only [maxLen]; omega
           · omega
           · have := HB4.out.size; rw [World.size_alloc]; omega
           intro v' w5 hown' hgrow _
           have HR5 := Lib.hid hown'
           have HB5 := Lib.hid ((HB4.out.alloc HB4.out.size _).grown hgrow (by have := HB4.out.size; rw [World.size_alloc]; omega) (fun k hk => by simp [Value.ownBlock] at hk))
           clear hown' hgrow))
      go_roundw
      case rel => exact .inr (.inl ⟨rfl, HR5.out, HB5.out⟩)
      case measure => simp [intOf]
    · obtain ⟨w2, rfl⟩ : ∃ w2, w2 = wr := ⟨_, rfl⟩
      have c0 : w2.cell? ⟨g1, 7, none⟩ = some (Value.int .u64 4) := cell_of (heap_on hb H1.out) 7
      have c1 : w2.cell? ⟨g1, 8, none⟩ = some (Value.int .i64 50) := cell_of (heap_on hb H1.out) 8
      have c2 : w2.cell? ⟨g1, 9, none⟩ = some (Value.int .i64 1) := cell_of (heap_on hb H1.out) 9
      have c3 : w2.cell? ⟨g1, 10, none⟩ = some (Value.string ⟨#[101]⟩) := cell_of (heap_on hb H1.out) 10
      have c4 : w2.cell? ⟨g1, 11, none⟩ = some (Value.string ⟨#[102]⟩) := cell_of (heap_on hb H1.out) 11
      have c5 : w2.cell? ⟨g1, 12, none⟩ = some (Value.int .u64 1) := cell_of (heap_on hb H1.out) 12
      have c6 : w2.cell? ⟨g1, 13, none⟩ = some (Value.int .u64 1) := cell_of (heap_on hb H1.out) 13
      have HROW := Lib.hid hrow
      have HB := Lib.hid hb
      clear hb hrow
      go_wp2_with (go_at_call 52; refine (HP4.out _ (HB.out.alloc HB.out.size _)).mono ?_; rintro e4 w4 ⟨rfl, hb4⟩; have HB4 := Lib.hid hb4; clear hb4)
      go_roundw
      case rel => exact .inr (.inr ⟨rfl, own_below (HROW.out.alloc _) HB4.out, below_step (HB.out.alloc HB.out.size _) HB4.out (Nat.le_refl _)⟩)
      case measure => simp [intOf]
    · have HROW := Lib.hid hrow
      have HB := Lib.hid hb
      clear hb hrow
      go_wp2
      go_ret
      exact ⟨_, rfl, HROW.out, HB.out⟩
end Go.Proofs.Ythhdameaihclmaa
