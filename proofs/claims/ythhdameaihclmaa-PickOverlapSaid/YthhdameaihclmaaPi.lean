/- due of package pick and Size of package edit, as layer 16's awake calls them. Conditions: that the tables lie in memory. -/
import Derived.Test.YthhdameaihclmaaPh
namespace Go.Proofs.Ythhdameaihclmaa
open Go.RowKit Sk

set_option maxRecDepth 100000 in
set_option maxHeartbeats 2000000 in
theorem sizeE_any (w : World) (k : Int) (hk : k = 1 ∨ k = 2) :
    Calls Try.prog 59 #[.agg verE, .int .i64 k] w fun e w' => e = .returned (.int .i64 0) ∧ Below w.heap.size w w' := by
  have HL := Lib.hid (fun W => level_any W k (by omega) (by omega))
  have HB := Lib.hid ((Below.refl w.heap.size w).alloc (Nat.le_refl _) (.cells verE 91))
  unfold verE at *
  rcases hk with rfl | rfl
  all_goals
    go_enter Try.func59, Try.ntmps59
    go_wp2_with (go_at_call 63; refine (HL.out _).mono ?_; rintro e1 w1 ⟨rfl, rfl⟩)
    go_loop [5, 15] (fun v j => v = .int .i64 0 ∧ j = .int .i64 0) (fun _ _ => 0)
    case atStart => exact ⟨rfl, rfl⟩
    case round =>
      obtain ⟨rfl, rfl⟩ := hrel
      go_wp2
      go_ret
      exact ⟨rfl, HB.out⟩

set_option maxRecDepth 100000 in
set_option maxHeartbeats 2000000 in
theorem dueE_any (w : World) (k : Int) (hk : k = 0 ∨ k = 1 ∨ k = 2) :
    Calls Try.prog 49 #[.agg verE, .agg #[.int .i64 2, .int .i64 100, .int .i64 10], .int .i64 k] w fun e w' => e = .returned (.slice none 0 0) ∧ Below w.heap.size w w' := by
  have HB := Lib.hid (((Below.refl w.heap.size w).alloc (Nat.le_refl _) (.cells verE 91)).alloc (by simp) (.cells #[.int .i64 2, .int .i64 100, .int .i64 10] 98))
  have HS1 := Lib.hid (fun W => sizeE_any W 1 (.inl rfl))
  have HS2 := Lib.hid (fun W => sizeE_any W 2 (.inr rfl))
  unfold verE at *
  rcases hk with rfl | rfl | rfl
  · go_enter Try.func49, Try.ntmps49
    go_wp2
    go_ret
    exact ⟨rfl, HB.out⟩
  · go_enter Try.func49, Try.ntmps49
    go_wp2_with (go_at_call 59; refine (HS1.out _).mono ?_; rintro e1 w1 ⟨rfl, hb1⟩)
    go_ret
    exact ⟨rfl, below_step HB.out hb1 (Nat.le_refl _)⟩
  · go_enter Try.func49, Try.ntmps49
    go_wp2_with (go_at_call 59; refine (HS2.out _).mono ?_; rintro e1 w1 ⟨rfl, hb1⟩)
    go_ret
    exact ⟨rfl, below_step HB.out hb1 (Nat.le_refl _)⟩

set_option maxRecDepth 100000 in
set_option maxHeartbeats 2000000 in
theorem dueS_any (w : World) (g0 g1 : Nat) (h0 : w.heap[g0]? = some (.cells cs0 69 (0, 0))) :
    Calls Try.prog 49 #[.agg (verS g0 g1), .agg #[.int .i64 2, .int .i64 100, .int .i64 10], .int .i64 0] w fun e w' => ∃ v, e = .returned v ∧ w'.ownsRow w.heap.size 69 7 v 2 cs0.toList ∧ Below w.heap.size w w' := by
  have HB := Lib.hid (((Below.refl w.heap.size w).alloc (Nat.le_refl _) (.cells (verS g0 g1) 91)).alloc (by simp) (.cells #[.int .i64 2, .int .i64 100, .int .i64 10] 98))
  have HC := Lib.hid (clone_any _ g0 (heap_on HB.out h0))
  clear h0
  unfold verS at *
  go_enter Try.func49, Try.ntmps49
  go_wp2_with (go_at_call 58; refine HC.out.mono ?_; rintro e1 w1 ⟨v, rfl, hr1, hb1⟩; have HR1 := Lib.hid hr1; have HB1 := Lib.hid (below_step HB.out hb1 (Nat.le_refl _)); clear hr1 hb1)
  go_ret
  exact ⟨_, rfl, own_mono HR1.out HB.out.size, HB1.out⟩
end Go.Proofs.Ythhdameaihclmaa
