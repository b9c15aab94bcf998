/- Right of package edit at the sample version of layer 16's statements and at the empty one. Conditions: that its tables lie in memory. -/
import Derived.Test.YthhdameaihclmaaPd
namespace Go.Proofs.Ythhdameaihclmaa
open Go.RowKit Sk

def Yes (W : World) (e : Ending) (w' : World) : Prop := e = .returned (.bool true) ∧ Below W.heap.size W w'
set_option maxRecDepth 100000 in
set_option maxHeartbeats 2000000 in
theorem right_any (w : World) (a b c : Int) (s0 s1 s2 s3 : Value)
    (h5 : ∀ W, Below w.heap.size w W → Calls Try.prog 55 #[.agg #[.int .u64 a, .int .u64 b, .int .u64 c, s0, s1, s2, s3]] W (Yes W))
    (h6 : ∀ W, Below w.heap.size w W → Calls Try.prog 56 #[.agg #[.int .u64 a, .int .u64 b, .int .u64 c, s0, s1, s2, s3]] W (Yes W))
    (h7 : ∀ W, Below w.heap.size w W → Calls Try.prog 57 #[.agg #[.int .u64 a, .int .u64 b, .int .u64 c, s0, s1, s2, s3]] W (Yes W))
    (hs : s0.oneCell' = true ∧ s1.oneCell' = true ∧ s2.oneCell' = true ∧ s3.oneCell' = true) :
    Calls Try.prog 47 #[.agg #[.int .u64 a, .int .u64 b, .int .u64 c, s0, s1, s2, s3]] w (Yes w) := by
  have H5 := Lib.hid h5
  have H6 := Lib.hid h6
  have H7 := Lib.hid h7
  have HB0 := Lib.hid (((Below.refl w.heap.size w).alloc (Nat.le_refl _) (.cells #[.int .u64 a, .int .u64 b, .int .u64 c, s0, s1, s2, s3] 91)).alloc (by simp) (.cells #[.func (.func 55) #[] #[], .func (.func 56) #[] #[], .func (.func 57) #[] #[]] 111))
  have HX := Lib.hid (heap_alloc2_old w (.cells #[.int .u64 a, .int .u64 b, .int .u64 c, s0, s1, s2, s3] 91) (.cells #[.func (.func 55) #[] #[], .func (.func 56) #[] #[], .func (.func 57) #[] #[]] 111))
  have HY := Lib.hid (heap_alloc2_new w (.cells #[.int .u64 a, .int .u64 b, .int .u64 c, s0, s1, s2, s3] 91) (.cells #[.func (.func 55) #[] #[], .func (.func 56) #[] #[], .func (.func 57) #[] #[]] 111))
  clear h5 h6 h7
  obtain ⟨o0, o1, o2, o3⟩ := hs
  unfold Yes
  go_enter Try.func47, Try.ntmps47
  go_wp2
  go_loopw [7] (fun i wr => (i = .int .i64 0 ∨ i = .int .i64 1 ∨ i = .int .i64 2 ∨ i = .int .i64 3) ∧ Below w.heap.size w wr ∧
      wr.heap[w.heap.size]? = some (.cells #[.int .u64 a, .int .u64 b, .int .u64 c, s0, s1, s2, s3] 91 (0, 0)) ∧ wr.heap[w.heap.size + 1]? = some (.cells #[.func (.func 55) #[] #[], .func (.func 56) #[] #[], .func (.func 57) #[] #[]] 111 (0, 0))) (fun i _ => 3 - (intOf i).toNat)
  case atStart => exact ⟨.inl rfl, HB0.out, HX.out, HY.out⟩
  case round =>
    obtain ⟨hi, hb, hx, hy⟩ := hrel
    have HB := Lib.hid hb
    have HX1 := Lib.hid hx
    have HY1 := Lib.hid hy
    clear hb hx hy
    have b0 : wr.cell? ⟨w.heap.size, 0, none⟩ = some (.int .u64 a) := cell_of HX1.out 0
    have b1 : wr.cell? ⟨w.heap.size, 1, none⟩ = some (.int .u64 b) := cell_of HX1.out 1
    have b2 : wr.cell? ⟨w.heap.size, 2, none⟩ = some (.int .u64 c) := cell_of HX1.out 2
    have b3 : wr.cell? ⟨w.heap.size, 3, none⟩ = some s0 := cell_of HX1.out 3
    have b4 : wr.cell? ⟨w.heap.size, 4, none⟩ = some s1 := cell_of HX1.out 4
    have b5 : wr.cell? ⟨w.heap.size, 5, none⟩ = some s2 := cell_of HX1.out 5
    have b6 : wr.cell? ⟨w.heap.size, 6, none⟩ = some s3 := cell_of HX1.out 6
    have f0 : wr.cell? ⟨w.heap.size + 1, 0, none⟩ = some (.func (.func 55) #[] #[]) := cell_of HY1.out 0
    have f1 : wr.cell? ⟨w.heap.size + 1, 1, none⟩ = some (.func (.func 56) #[] #[]) := cell_of HY1.out 1
    have f2 : wr.cell? ⟨w.heap.size + 1, 2, none⟩ = some (.func (.func 57) #[] #[]) := cell_of HY1.out 2
    rcases hi with rfl | rfl | rfl | rfl
    · go_wp2_with (go_at_call 55; refine (H5.out _ HB.out).mono ?_; rintro e4 w4 ⟨rfl, hb4⟩)
      go_roundw
      case rel => exact ⟨.inr (.inl rfl), below_step HB.out hb4 (Nat.le_refl _), heap_on hb4 HX1.out, heap_on hb4 HY1.out⟩
      case measure => simp [intOf]
    · go_wp2_with (go_at_call 56; refine (H6.out _ HB.out).mono ?_; rintro e4 w4 ⟨rfl, hb4⟩)
      go_roundw
      case rel => exact ⟨.inr (.inr (.inl rfl)), below_step HB.out hb4 (Nat.le_refl _), heap_on hb4 HX1.out, heap_on hb4 HY1.out⟩
      case measure => simp [intOf]
    · go_wp2_with (go_at_call 57; refine (H7.out _ HB.out).mono ?_; rintro e4 w4 ⟨rfl, hb4⟩)
      go_roundw
      case rel => exact ⟨.inr (.inr (.inr rfl)), below_step HB.out hb4 (Nat.le_refl _), heap_on hb4 HX1.out, heap_on hb4 HY1.out⟩
      case measure => simp [intOf]
    · go_wp2
      go_ret
      exact ⟨rfl, HB.out⟩

theorem rightE_any (w : World) : Calls Try.prog 47 #[.agg verE] w (Yes w) := by
  unfold verE
  refine right_any w 1 1 0 _ _ _ _ (fun W _ => ?_) (fun W _ => ?_) (fun W _ => ?_) ⟨rfl, rfl, rfl, rfl⟩
  · exact bounds_any W ⟨1, 1, 0, ⟨none, 0, []⟩, ⟨none, 0, []⟩, ⟨none, 0, []⟩, ⟨none, 0, []⟩⟩ (by decide) (by decide) (by decide) (by decide) (by decide)
  · exact tablesE_any W
  · exact orderE_any W
theorem rightS_any (w : World) (g0 g1 : Nat) (h0 : w.heap[g0]? = some (.cells cs0 69 (0, 0))) (h1 : w.heap[g1]? = some (.cells cs1 69 (0, 0))) : Calls Try.prog 47 #[.agg (verS g0 g1)] w (Yes w) := by
  unfold verS
  refine right_any w 1 5 9 _ _ _ _ (fun W _ => ?_) (fun W hb => ?_) (fun W hb => ?_) ⟨rfl, rfl, rfl, rfl⟩
  · exact bounds_any W ⟨1, 5, 9, ⟨some ⟨g0, 0, none⟩, 2, [m1, m2]⟩, ⟨some ⟨g1, 0, none⟩, 2, [m3, m4]⟩, ⟨none, 0, []⟩, ⟨none, 0, []⟩⟩ (show (1 : Int) ≤ 1 by decide) (show (1 : Int) ≤ 99999999 by decide) (show (1 : Int) ≤ 5 by decide) (show (5 : Int) ≤ 99999999 by decide) (show (9 : Int) < 72057594037927936 by decide)
  · exact tablesS_any W g0 g1 (heap_on hb h0) (heap_on hb h1)
  · exact orderS_any W g0 g1 (heap_on hb h0) (heap_on hb h1)
end Go.Proofs.Ythhdameaihclmaa
