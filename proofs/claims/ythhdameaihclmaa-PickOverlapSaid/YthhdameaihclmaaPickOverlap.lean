/- PickOverlap holds: for every input it returns true, and each argument reads afterwards as it read before. Condition: none. -/
import Derived.Test.YthhdameaihclmaaPm
import Derived.Test.YthhdameaihclmaaOp
import Derived.Lib.QuietBelow
namespace Go.Proofs.Ythhdameaihclmaa
open Go.ChangeShapes Go.WideShapes Go.ChangeAt Go.RowKit Go.Deep Sk
open Go.ChangeMaps (open_string shut_string)

def mtV (m : Mt) : Value := .agg #[.int .u64 m.num, .int .i64 m.size, .int .i64 m.rows, .string m.first, .string m.last, .int .u64 m.least, .int .u64 m.greatest]
set_option maxRecDepth 100000 in
set_option maxHeartbeats 400000 in
theorem pickOverlap_walk (w : World) (a b : Mt) : Calls Try.prog 6 #[mtV a, mtV b] w (Yes w) := by
  obtain ⟨an, asz, ar, af, al, ale, ag⟩ := a
  obtain ⟨bn, bsz, br, bf, bl, ble, bg⟩ := b
  unfold Yes mtV
  have hb2 : Below w.heap.size w ((w.alloc (.cells #[.int .u64 an, .int .i64 asz, .int .i64 ar, .string af, .string al, .int .u64 ale, .int .u64 ag] 69)).alloc (.cells #[.int .u64 bn, .int .i64 bsz, .int .i64 br, .string bf, .string bl, .int .u64 ble, .int .u64 bg] 69)) := ((Below.refl _ _).alloc (Nat.le_refl _) _).alloc (by simp) _
  have HA := Lib.hid (heap_alloc2_old w (.cells #[.int .u64 an, .int .i64 asz, .int .i64 ar, .string af, .string al, .int .u64 ale, .int .u64 ag] 69) (.cells #[.int .u64 bn, .int .i64 bsz, .int .i64 br, .string bf, .string bl, .int .u64 ble, .int .u64 bg] 69))
  have HB := Lib.hid (heap_alloc2_new w (.cells #[.int .u64 an, .int .i64 asz, .int .i64 ar, .string af, .string al, .int .u64 ale, .int .u64 ag] 69) (.cells #[.int .u64 bn, .int .i64 bsz, .int .i64 br, .string bf, .string bl, .int .u64 ble, .int .u64 bg] 69))
  have HB2 := Lib.hid hb2
  clear hb2
  go_enter Try.func6, Try.ntmps6
  go_upto_region 1 with fail
  generalize (w.alloc (.cells #[.int .u64 an, .int .i64 asz, .int .i64 ar, .string af, .string al, .int .u64 ale, .int .u64 ag] 69)).alloc (.cells #[.int .u64 bn, .int .i64 bsz, .int .i64 br, .string bf, .string bl, .int .u64 ble, .int .u64 bg] 69) = w1 at *
  have k0 := cell_regrown (show w1.cell? ⟨w.heap.size, 0, none⟩ = some (.int .u64 an) from cell_of HA.out 0)
  have k1 := cell_regrown (show w1.cell? ⟨w.heap.size, 1, none⟩ = some (.int .i64 asz) from cell_of HA.out 1)
  have k2 := cell_regrown (show w1.cell? ⟨w.heap.size, 2, none⟩ = some (.int .i64 ar) from cell_of HA.out 2)
  have k3 := cell_regrown (show w1.cell? ⟨w.heap.size, 3, none⟩ = some (.string af) from cell_of HA.out 3)
  have k4 := cell_regrown (show w1.cell? ⟨w.heap.size, 4, none⟩ = some (.string al) from cell_of HA.out 4)
  have k5 := cell_regrown (show w1.cell? ⟨w.heap.size, 5, none⟩ = some (.int .u64 ale) from cell_of HA.out 5)
  have k6 := cell_regrown (show w1.cell? ⟨w.heap.size, 6, none⟩ = some (.int .u64 ag) from cell_of HA.out 6)
  have m0 := cell_regrown (show w1.cell? ⟨w.heap.size + 1, 0, none⟩ = some (.int .u64 bn) from cell_of HB.out 0)
  have m1 := cell_regrown (show w1.cell? ⟨w.heap.size + 1, 1, none⟩ = some (.int .i64 bsz) from cell_of HB.out 1)
  have m2 := cell_regrown (show w1.cell? ⟨w.heap.size + 1, 2, none⟩ = some (.int .i64 br) from cell_of HB.out 2)
  have m3 := cell_regrown (show w1.cell? ⟨w.heap.size + 1, 3, none⟩ = some (.string bf) from cell_of HB.out 3)
  have m4 := cell_regrown (show w1.cell? ⟨w.heap.size + 1, 4, none⟩ = some (.string bl) from cell_of HB.out 4)
  have m5 := cell_regrown (show w1.cell? ⟨w.heap.size + 1, 5, none⟩ = some (.int .u64 ble) from cell_of HB.out 5)
  have m6 := cell_regrown (show w1.cell? ⟨w.heap.size + 1, 6, none⟩ = some (.int .u64 bg) from cell_of HB.out 6)
  obtain ⟨q, hq⟩ : ∃ q, ovB ⟨an, asz, ar, af, al, ale, ag⟩ ⟨bn, bsz, br, bf, bl, ble, bg⟩ = q := ⟨_, rfl⟩
  have hq2 : ovB ⟨bn, bsz, br, bf, bl, ble, bg⟩ ⟨an, asz, ar, af, al, ale, ag⟩ = q := by rw [← hq]; simp only [ovB]; exact Bool.and_comm _ _
  have cS1 : ∀ d os, Calls Try.prog 27 #[.agg #[.int .u64 an, .int .i64 asz, .int .i64 ar, .string af, .string al, .int .u64 ale, .int .u64 ag], .agg #[.int .u64 bn, .int .i64 bsz, .int .i64 br, .string bf, .string bl, .int .u64 ble, .int .u64 bg]] (Sort.grow (redrawn w1 d) os) fun e' w'' => e' = .returned (.bool q) ∧ ∃ p : Regrown, w'' = Sort.grow (redrawn w1 p.d) p.os := fun d os => by
    have := over_any (Sort.grow (redrawn w1 d) os) ⟨an, asz, ar, af, al, ale, ag⟩ ⟨bn, bsz, br, bf, bl, ble, bg⟩
    rw [hq] at this
    exact Calls.regrown_of this
  have cS2 : ∀ d os, Calls Try.prog 28 #[.agg #[.int .u64 an, .int .i64 asz, .int .i64 ar, .string af, .string al, .int .u64 ale, .int .u64 ag], .agg #[.int .u64 bn, .int .i64 bsz, .int .i64 br, .string bf, .string bl, .int .u64 ble, .int .u64 bg]] (Sort.grow (redrawn w1 d) os) fun e' w'' => e' = .returned (.bool q) ∧ ∃ p : Regrown, w'' = Sort.grow (redrawn w1 p.d) p.os := fun d os => by
    have := overR_any (Sort.grow (redrawn w1 d) os) ⟨an, asz, ar, af, al, ale, ag⟩ ⟨bn, bsz, br, bf, bl, ble, bg⟩
    rw [hq] at this
    exact Calls.regrown_of this
  have cS3 : ∀ d os, Calls Try.prog 27 #[.agg #[.int .u64 bn, .int .i64 bsz, .int .i64 br, .string bf, .string bl, .int .u64 ble, .int .u64 bg], .agg #[.int .u64 an, .int .i64 asz, .int .i64 ar, .string af, .string al, .int .u64 ale, .int .u64 ag]] (Sort.grow (redrawn w1 d) os) fun e' w'' => e' = .returned (.bool q) ∧ ∃ p : Regrown, w'' = Sort.grow (redrawn w1 p.d) p.os := fun d os => by
    have := over_any (Sort.grow (redrawn w1 d) os) ⟨bn, bsz, br, bf, bl, ble, bg⟩ ⟨an, asz, ar, af, al, ale, ag⟩
    rw [hq2] at this
    exact Calls.regrown_of this
  have cS4 : ∀ d os, Calls Try.prog 29 #[] (Sort.grow (redrawn w1 d) os) fun e' w'' => e' = .returned (.bool true) ∧ ∃ p : Regrown, w'' = Sort.grow (redrawn w1 p.d) p.os := fun d os => Calls.regrown_of (awake16_any _)
  have hqq : (q == q) = true := by simp
  clear hq hq2
  refine wp_region_quiet_below (by kernel_rfl) (by kernel_rfl) ?_
  repeat (go_big_quiet_step ((first | with_reducible exact cS1 _ _ | with_reducible exact cS2 _ _ | with_reducible exact cS3 _ _ | with_reducible exact cS4 _ _)))
  refine wpQuiet_nil ?_
  intro _ hw'
  obtain ⟨⟨dq, osq⟩, hw''⟩ := hw'
  subst hw''
  go_wp2
  go_ret
  exact ⟨rfl, below_step HB2.out (below_regrown w1 dq osq) (Nat.le_refl _)⟩

theorem cell25 : Try.prog.cellsOf 25 = 1 := by kernel_rfl
theorem cell3 : Try.prog.cellsOf 3 = 1 := by kernel_rfl
theorem cell9 : Try.prog.cellsOf 9 = 1 := by kernel_rfl
theorem Try.cells69 : Try.prog.cellsOf 69 = 7 := by kernel_rfl
set_option maxRecDepth 100000 in
theorem mt_open {H : Type} {enc : TypeId × Value → H} {W : World} {base : Nat} {spare : Nat → Bool} {held : Bool} {r : Reach} {b0 : Nat} {v : Value} {d : DataW H} {p : List MemPlace}
    (hv : Value.okWide Try.prog W r b0 69 v) (h : DataW.Trod enc Try.prog W base spare held 69 v d p) : ∃ m, v = mtV m := by
  obtain ⟨cs, rfl, hsz⟩ := okWide_struct Try.underlying69 hv
  obtain ⟨l⟩ := cs
  match l, hsz.trans Try.cells69 with
  | [c0, c1, c2, c3, c4, c5, c6], _ =>
    obtain ⟨fuel, hf⟩ := h
    obtain ⟨xs, n, _, hx, _, hlen, hg⟩ := DataW.trod_struct Try.underlying69 hf
    match xs, hlen with
    | [y0, y1, y2, y3, y4, y5, y6], _ =>
      have t0 : DataW.trod enc Try.prog W base spare held n 25 (List.take (Try.prog.cellsOf 25) [c0, c1, c2, c3, c4, c5, c6]) = some y0 := hg 0 _ rfl
      have t1 : DataW.trod enc Try.prog W base spare held n 3 (List.take (Try.prog.cellsOf 3) [c1, c2, c3, c4, c5, c6]) = some y1 := hg 1 _ rfl
      have t2 : DataW.trod enc Try.prog W base spare held n 3 (List.take (Try.prog.cellsOf 3) [c2, c3, c4, c5, c6]) = some y2 := hg 2 _ rfl
      have t3 : DataW.trod enc Try.prog W base spare held n 9 (List.take (Try.prog.cellsOf 9) [c3, c4, c5, c6]) = some y3 := hg 3 _ rfl
      have t4 : DataW.trod enc Try.prog W base spare held n 9 (List.take (Try.prog.cellsOf 9) [c4, c5, c6]) = some y4 := hg 4 _ rfl
      have t5 : DataW.trod enc Try.prog W base spare held n 25 (List.take (Try.prog.cellsOf 25) [c5, c6]) = some y5 := hg 5 _ rfl
      have t6 : DataW.trod enc Try.prog W base spare held n 25 (List.take (Try.prog.cellsOf 25) [c6]) = some y6 := hg 6 _ rfl
      rw [cell25] at t0 t5 t6
      rw [cell3] at t1 t2
      rw [cell9] at t3 t4
      simp only [List.take] at t0 t1 t2 t3 t4 t5 t6
      obtain ⟨n0, e0, _, _⟩ := DataW.trod_int Try.underlying25 t0
      obtain ⟨n1, e1, _, _⟩ := DataW.trod_int Try.underlying3 t1
      obtain ⟨n2, e2, _, _⟩ := DataW.trod_int Try.underlying3 t2
      obtain ⟨s3, e3, _, _⟩ := DataW.trod_string Try.underlying9 t3
      obtain ⟨s4, e4, _, _⟩ := DataW.trod_string Try.underlying9 t4
      obtain ⟨n5, e5, _, _⟩ := DataW.trod_int Try.underlying25 t5
      obtain ⟨n6, e6, _, _⟩ := DataW.trod_int Try.underlying25 t6
      injection e0 with e0; injection e1 with e1; injection e2 with e2; injection e3 with e3; injection e4 with e4; injection e5 with e5; injection e6 with e6
      subst e0 e1 e2 e3 e4 e5 e6
      exact ⟨⟨n0, n1, n2, s3, s4, n5, n6⟩, rfl⟩

set_option maxRecDepth 100000 in
theorem pickOverlap_lifted (os : Os) (started : os.Started) (H : Type) (enc : TypeId × Value → H) :
    ReturnsInHanded {} Try.checked os 6 .any (Rows.pickOverlapSpec.pre6 enc Try.prog Try.f6 Rows.pickOverlapRow.domain false) (Rows.pickOverlapSpec.post enc Try.prog Try.f6 false true false false) := by
  refine returnsInHanded_of_change (C := Try.checked) Try.own started (by kernel_rfl) Try.func6
    (ChangeSpec.witness6 (enc := enc) (C := Try.checked) false ⟨#[], #[.agg #[.int .u64 0, .int .i64 0, .int .i64 0, .string ⟨#[]⟩, .string ⟨#[]⟩, .int .u64 0, .int .u64 0], .agg #[.int .u64 0, .int .i64 0, .int .i64 0, .string ⟨#[]⟩, .string ⟨#[]⟩, .int .u64 0, .int .u64 0]], []⟩ 8 (by kernel_rfl) (by kernel_rfl) (by kernel_rfl) (by kernel_rfl)) ?_
  intro W base args ds gs before hval0 hW hcnd _
  have hval : ∀ (j : Nat) t v, Try.f6.params[j]? = some t → args[j]? = some v → Value.okWide Try.prog W .any base t v := hval0
  have hW' := hW
  obtain ⟨p, q, hA0, hV, rfl, hfz, hnd⟩ := hW
  have hA : DataW.TrodAll enc Try.prog W 0 (fun _ => true) true Try.f6.params.toList args.toList ds p := hA0
  rw [Try.params6] at hA hval
  obtain ⟨v0, v1, d0, d1, p0, p1, rfl, rfl, rfl, h0, h1⟩ := trodAll_two hA
  obtain ⟨rfl, rfl⟩ := trodVars_none hV
  have k0 := h0
  have k1 := h1
  have lt0 : ∀ x ∈ p0, x.block < W.heap.size := by obtain ⟨m, hm⟩ := k0; exact DataW.trod_lt m _ _ _ hm
  have lt1 : ∀ x ∈ p1, x.block < W.heap.size := by obtain ⟨m, hm⟩ := k1; exact DataW.trod_lt m _ _ _ hm
  obtain ⟨a, rfl⟩ := mt_open (hval 0 69 v0 rfl rfl) h0
  obtain ⟨b, rfl⟩ := mt_open (hval 1 69 v1 rfl rfl) h1
  clear hA0 hval0
  refine (pickOverlap_walk W a b).mono fun e W' ⟨he, bel⟩ => ?_
  subst he
  exact ⟨_, rfl, _, _, _, [], _, [], hW', trodAll_mk1 (shut_bool Try.underlying4 _),
    (trodAll_cons_mk (Below.trod Try.laidOut (by kernel_rfl) (of_decide_eq_true (by kernel_rfl)) k0 bel lt0)
      (trodAll_cons_mk (Below.trod Try.laidOut (by kernel_rfl) (of_decide_eq_true (by kernel_rfl)) k1 bel lt1) trodAll_mk0)), rfl, bel.frame _, fun h => by cases h⟩

theorem pickOverlap_holds : Rows.PickOverlapSaid :=
  OpenClaim.holds_of_wide 6 Try.f6 rfl rfl rfl rfl rfl rfl rfl ⟨rfl, rfl, rfl, rfl, rfl⟩ rfl rfl rfl rfl rfl (by kernel_rfl) Try.func6 (by kernel_rfl)
    (of_decide_eq_true (by kernel_rfl)) (by unfold Func.isWrapper; rw [if_neg (of_decide_eq_false (by kernel_rfl))]; exact ⟨rfl, rfl⟩)
    (fun os started H enc _ => pickOverlap_lifted os started H enc)
#print axioms pickOverlap_holds
end Go.Proofs.Ythhdameaihclmaa
