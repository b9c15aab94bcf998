/- The sample version, and slices.Clone of its first level. Conditions: that its tables lie in memory. -/
import Derived.Test.YthhdameaihclmaaPe
namespace Go.Proofs.Ythhdameaihclmaa
open Go.RowKit Sk

set_option maxRecDepth 100000 in
set_option maxHeartbeats 2000000 in
theorem sample_any (w : World) :
    Calls Try.prog 42 #[] w fun e w' => ∃ g0 g1, e = .returned (.agg (verS g0 g1)) ∧ w'.heap[g0]? = some (.cells cs0 69 (0, 0)) ∧ w'.heap[g1]? = some (.cells cs1 69 (0, 0)) ∧ Below w.heap.size w w' := by
  go_enter Try.func42, Try.ntmps42
  go_wp2
  refine bodyPost_ret (v := .agg (verS (w.heap.size + 1 + 1) (w.heap.size + 1 + 1 + 1))) (by simp [results, Try.results42, go_sem, verS]) rfl ⟨_, _, rfl, ?_, ?_, ?_⟩
  · have := heap_alloc2_old ((w.alloc (.cells (verS (w.heap.size + 1 + 1) (w.heap.size + 1 + 1 + 1)) 91)).alloc (.cells (verS (w.heap.size + 1 + 1) (w.heap.size + 1 + 1 + 1)) 91)) (.cells cs0 69) (.cells cs1 69)
    rw [World.size_alloc, World.size_alloc] at this
    exact this
  · have := heap_alloc2_new ((w.alloc (.cells (verS (w.heap.size + 1 + 1) (w.heap.size + 1 + 1 + 1)) 91)).alloc (.cells (verS (w.heap.size + 1 + 1) (w.heap.size + 1 + 1 + 1)) 91)) (.cells cs0 69) (.cells cs1 69)
    rw [World.size_alloc, World.size_alloc] at this
    exact this
  · exact ((((Below.refl _ _).alloc (Nat.le_refl _) _).alloc (by simp) _).alloc (by simp; omega) _).alloc (by simp; omega) _

theorem Try.info69 : (Try.prog.info? 69).map (fun i => (i.zero, i.size, i.bytes)) = some (some (.agg #[.int .u64 0, .int .i64 0, .int .i64 0, .string ⟨#[]⟩, .string ⟨#[]⟩, .int .u64 0, .int .u64 0]), 7, 72) := by kernel_rfl
theorem oneC0 : cs0.toList.all (·.oneCell') = true := rfl
theorem eqnil (w : World) (g : Nat) : (binOp .eql 88 (.slice (some ⟨g, 0, none⟩) 2 2) (.slice none 0 0)).run Try.prog w = .ok (.bool false) w := by kernel_rfl

set_option maxRecDepth 100000 in
set_option maxHeartbeats 2000000 in
theorem clone_any (w : World) (g0 : Nat) (h0 : w.heap[g0]? = some (.cells cs0 69 (0, 0))) :
    Calls Try.prog 58 #[.slice (some ⟨g0, 0, none⟩) 2 2] w fun e w' => ∃ v, e = .returned v ∧ w'.ownsRow w.heap.size 69 7 v 2 cs0.toList ∧ Below w.heap.size w w' := by
  obtain ⟨i0, hi, hz0, hz1, hz2⟩ := info_parts Try.info69
  have hb : Below w.heap.size w (w.alloc (.cells #[] 69)) := (Below.refl _ _).alloc (Nat.le_refl _) _
  have hown : (w.alloc (.cells #[] 69)).ownsRow w.heap.size 69 7 (.slice (some ⟨w.heap.size, 0, none⟩) 0 0) 0 [] :=
    ⟨rfl, .inr ⟨w.heap.size, 0, #[], rfl, Nat.le_refl _, heap_alloc_new _ _, Nat.le_refl _, by simp [maxLen], rfl, rfl⟩⟩
  have H0 := Lib.hid (heap_on hb h0)
  have HO := Lib.hid hown
  have HB := Lib.hid hb
  clear h0 hown hb
  have he := eqnil
  go_enter Try.func58, Try.ntmps58
  go_wp2_with (at_builtin; refine wpList_append_own _ rfl _ _ 88 rfl w.heap.size 69 i0 _ 7 72 Try.underlying88 hi hz0 hz1 hz2 rfl (by decide) _ 0 [] rfl HO.out ⟨g0, 0, none⟩ 2 2 cs0.toList rfl rfl ?_ ?_ ?_ ?_ ?_ ?_
               · intro j u hu
                 rw [Addr.add_mid, Nat.zero_add, cell_of H0.out]
                 simpa using hu
               · intro u hu; exact List.all_eq_true.1 oneC0 u hu
               · simp only [maxLen]; omega
               · omega
               · exact HB.out.size
               intro v' w2 hown' hgrow _
               have HO2 := Lib.hid hown'
               have HB2 := Lib.hid (HB.out.grown hgrow HB.out.size (fun k hk => by cases hk; exact Nat.le_refl _))
               clear hown' hgrow)
  go_ret
  exact ⟨_, rfl, HO2.out, HB2.out⟩
end Go.Proofs.Ythhdameaihclmaa
