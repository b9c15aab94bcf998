/- SkipPlays holds: for every input it returns true, and its argument reads afterwards as it read before. Condition: none. -/
import Derived.Test.YthhdameaihclmaaPlays
import Derived.Test.YthhdameaihclmaaOp
namespace Go.Proofs.Ythhdameaihclmaa
open Go.ChangeShapes Go.WideShapes Go.ChangeAt Go.RowKit Go.Deep Sk
open Go.ChangeMaps (open_string shut_string)

theorem Try.cells39 : Try.prog.cellsOf 39 = 6 := by kernel_rfl
theorem Try.cells3 : Try.prog.cellsOf 3 = 1 := by kernel_rfl
theorem Try.cells9 : Try.prog.cellsOf 9 = 1 := by kernel_rfl
theorem Try.cells25 : Try.prog.cellsOf 25 = 1 := by kernel_rfl

theorem op_open {H : Type} {enc : TypeId × Value → H} {W : World} {base : Nat} {spare : Nat → Bool} {held : Bool} {fuel : Nat} {cs : List Value} {x : DataW H × List MemPlace} (h : DataW.trod enc Try.prog W base spare held fuel 39 cs = some x) (hl : cs.length = 6) :
    ∃ y : Opc, cs = [.int .i64 y.act, .string y.row.key, .int .u64 y.row.seq, .int .i64 y.row.kind, .string y.row.val, .int .i64 y.hgt] ∧
      (0 ≤ y.row.seq ∧ y.row.seq ≤ 18446744073709551615) ∧ -9223372036854775808 ≤ y.hgt ∧ y.hgt ≤ 9223372036854775807 := by
  obtain ⟨c0, c1, c2, c3, c4, c5, rfl⟩ : ∃ c0 c1 c2 c3 c4 c5, cs = [c0, c1, c2, c3, c4, c5] := by
    match cs, hl with
    | [a, b, c, d, e, f], _ => exact ⟨a, b, c, d, e, f, rfl⟩
  obtain ⟨xs, n, _, _, _, hxl, hf⟩ := DataW.trod_struct Try.underlying39 h
  have hx : ∀ i, i < 3 → ∃ z, xs[i]? = some z := fun i hi => ⟨_, List.getElem?_eq_getElem (by rw [hxl]; exact hi)⟩
  obtain ⟨z0, e0⟩ := hx 0 (by omega)
  obtain ⟨z1, e1⟩ := hx 1 (by omega)
  obtain ⟨z2, e2⟩ := hx 2 (by omega)
  have f0 : DataW.trod enc Try.prog W base spare held n 3 (List.take (Try.prog.cellsOf 3) [c0, c1, c2, c3, c4, c5]) = some z0 := (hf 0 _ rfl).trans e0
  have f1 : DataW.trod enc Try.prog W base spare held n 27 (List.take (Try.prog.cellsOf 27) [c1, c2, c3, c4, c5]) = some z1 := (hf 1 _ rfl).trans e1
  have f2 : DataW.trod enc Try.prog W base spare held n 3 (List.take (Try.prog.cellsOf 3) [c5]) = some z2 := (hf 2 _ rfl).trans e2
  rw [Try.cells3] at f0 f2
  rw [Try.cells27] at f1
  simp only [List.take] at f0 f1 f2
  obtain ⟨ys, n', _, _, _, hyl, hg⟩ := DataW.trod_struct Try.underlying27 f1
  have hy : ∀ i, i < 4 → ∃ z, ys[i]? = some z := fun i hi => ⟨_, List.getElem?_eq_getElem (by rw [hyl]; exact hi)⟩
  obtain ⟨y0, d0⟩ := hy 0 (by omega)
  obtain ⟨y1, d1⟩ := hy 1 (by omega)
  obtain ⟨y2, d2⟩ := hy 2 (by omega)
  obtain ⟨y3, d3⟩ := hy 3 (by omega)
  have g0 : DataW.trod enc Try.prog W base spare held n' 9 (List.take (Try.prog.cellsOf 9) [c1, c2, c3, c4]) = some y0 := (hg 0 _ rfl).trans d0
  have g1 : DataW.trod enc Try.prog W base spare held n' 25 (List.take (Try.prog.cellsOf 25) [c2, c3, c4]) = some y1 := (hg 1 _ rfl).trans d1
  have g2 : DataW.trod enc Try.prog W base spare held n' 3 (List.take (Try.prog.cellsOf 3) [c3, c4]) = some y2 := (hg 2 _ rfl).trans d2
  have g3 : DataW.trod enc Try.prog W base spare held n' 9 (List.take (Try.prog.cellsOf 9) [c4]) = some y3 := (hg 3 _ rfl).trans d3
  rw [Try.cells9] at g0 g3
  rw [Try.cells25] at g1
  rw [Try.cells3] at g2
  simp only [List.take] at g0 g1 g2 g3
  obtain ⟨n0, a0, _, _⟩ := DataW.trod_int Try.underlying3 f0
  obtain ⟨n5, a5, _, w5⟩ := DataW.trod_int Try.underlying3 f2
  obtain ⟨s1, a1, _, _⟩ := DataW.trod_string Try.underlying9 g0
  obtain ⟨n2, a2, _, w2⟩ := DataW.trod_int Try.underlying25 g1
  obtain ⟨n3, a3, _, _⟩ := DataW.trod_int Try.underlying3 g2
  obtain ⟨s4, a4, _, _⟩ := DataW.trod_string Try.underlying9 g3
  injection a0 with a0; injection a1 with a1; injection a2 with a2; injection a3 with a3; injection a4 with a4; injection a5 with a5
  subst a0 a1 a2 a3 a4 a5
  exact ⟨⟨n0, ⟨s1, n2, n3, s4⟩, n5⟩, rfl, u64_bounds w2, i64_bounds w5⟩

theorem ops_open {H : Type} {enc : TypeId × Value → H} {W : World} {base : Nat} {spare : Nat → Bool} {held : Bool} {fuel : Nat} {cs : List Value} {x : DataW H × List MemPlace} (h : DataW.trod enc Try.prog W base spare held fuel 22 cs = some x) :
    ∃ A c l, cs = [.slice A l.length c] ∧ Ops_ W A l ∧ ∀ y ∈ l, (0 ≤ y.row.seq ∧ y.row.seq ≤ 18446744073709551615) ∧ -9223372036854775808 ≤ y.hgt ∧ y.hgt ≤ 9223372036854775807 := by
  rcases open_slice Try.underlying22 h with ⟨rfl, _⟩ | ⟨a, len, cap, m, nf, D, Pl, rfl, _, hl, hm, hmm, _, hi⟩
  · exact ⟨none, 0, [], rfl, .inl rfl, fun r hr => by simp at hr⟩
  · have hlm : len ≤ m := by rw [hmm]; split <;> omega
    by_cases hz : len = 0
    · subst hz
      exact ⟨some a, cap, [], rfl, .inl rfl, fun r hr => by simp at hr⟩
    have one : ∀ i, i < m → ∃ y : Opc, (∀ j v, [Value.int .i64 y.act, .string y.row.key, .int .u64 y.row.seq, .int .i64 y.row.kind, .string y.row.val, .int .i64 y.hgt][j]? = some v → W.cell? ((a.add (i * 6)).add j) = some v) ∧
        (0 ≤ y.row.seq ∧ y.row.seq ≤ 18446744073709551615) ∧ -9223372036854775808 ≤ y.hgt ∧ y.hgt ≤ 9223372036854775807 := by
      intro i him
      obtain ⟨cs', hc, ht⟩ := hi i him
      rw [Try.cells39] at hc
      obtain ⟨_, hcl, hat⟩ := World.cells?_some hc
      obtain ⟨y, rfl, hw⟩ := op_open ht hcl
      refine ⟨y, fun j v hj => ?_, hw⟩
      rw [hat j (by have := (List.getElem?_eq_some_iff.1 hj).1; simpa using this)]
      exact hj
    obtain ⟨b, o, sp⟩ := a
    obtain rfl : sp = none := by
      obtain ⟨y, hc, _⟩ := one 0 (by omega)
      have c0 := hc 0 _ rfl
      simpa [Addr.add] using World.cell?_spot c0
    have key : ∀ n, n ≤ len → ∃ l : List Opc, l.length = n ∧ (∀ k y, l[k]? = some y → OpAt W b (o + k * 6) y) ∧ ∀ y ∈ l, (0 ≤ y.row.seq ∧ y.row.seq ≤ 18446744073709551615) ∧ -9223372036854775808 ≤ y.hgt ∧ y.hgt ≤ 9223372036854775807 := by
      intro n
      induction n with
      | zero => intro _; exact ⟨[], rfl, fun k r hk => by simp at hk, fun r hr => by simp at hr⟩
      | succ n ih =>
        intro hn
        obtain ⟨l, hll, hra, hwf⟩ := ih (by omega)
        obtain ⟨y, hc, hw⟩ := one n (by omega)
        have c0 := hc 0 _ rfl
        have c1 := hc 1 _ rfl
        have c2 := hc 2 _ rfl
        have c3 := hc 3 _ rfl
        have c4 := hc 4 _ rfl
        have c5 := hc 5 _ rfl
        rw [Addr.add_mid, Addr.add_mid] at c0 c1 c2 c3 c4 c5
        refine ⟨l ++ [y], by simp [hll], fun k r hk => ?_, fun r hr => ?_⟩
        · rw [List.getElem?_append] at hk
          split at hk
          · exact hra k r hk
          · rename_i hge
            have hkn : k = n := by
              rcases Nat.lt_or_ge (k - l.length) 1 with h1 | h1
              · omega
              · rw [List.getElem?_eq_none (by simpa using h1)] at hk; cases hk
            subst hkn
            rw [hll, Nat.sub_self] at hk
            simp at hk
            subst hk
            exact ⟨c0, c1, c2, c3, c4, c5⟩
        · rcases List.mem_append.1 hr with h1 | h1
          · exact hwf r h1
          · simp at h1; subst h1; exact hw
    obtain ⟨l, hll, hra, hwf⟩ := key len (Nat.le_refl _)
    exact ⟨_, cap, l, by rw [hll], .inr ⟨b, o, rfl, hra⟩, hwf⟩

set_option maxRecDepth 100000 in
set_option maxHeartbeats 4000000 in
theorem skipPlays_long (w : World) (A : Option Addr) (n c : Nat) (hl : 150 < n) :
    Calls Try.prog 3 #[.slice A n c] w fun e w' => e = .returned (.bool true) ∧ Below w.heap.size w w' := by
  go_enter Try.func3, Try.ntmps3
  go_wp2_with (go_at_call 7; refine (awake_any _).mono ?_; rintro e7 w7 ⟨rfl, hb7⟩)
  go_ret
  exact ⟨rfl, hb7⟩

theorem skipPlays_walk (w : World) (A : Option Addr) (c : Nat) (ops : List Opc) (hr : Ops_ w A ops)
    (hwf : ∀ x ∈ ops, (0 ≤ x.row.seq ∧ x.row.seq ≤ 18446744073709551615) ∧ -9223372036854775808 ≤ x.hgt ∧ x.hgt ≤ 9223372036854775807) :
    Calls Try.prog 3 #[.slice A ops.length c] w fun e w' => e = .returned (.bool true) ∧ Below w.heap.size w w' := by
  by_cases hl : ops.length ≤ 150
  · exact skipPlays_any w A c ops hr hl hwf
  · exact skipPlays_long w A _ c (by omega)

set_option maxRecDepth 100000 in
theorem skipPlays_lifted (os : Os) (started : os.Started) (H : Type) (enc : TypeId × Value → H) :
    ReturnsInHanded {} Try.checked os 3 .any (Rows.skipPlaysSpec.pre6 enc Try.prog Try.f3 Rows.skipPlaysRow.domain false) (Rows.skipPlaysSpec.post enc Try.prog Try.f3 false true false false) := by
  refine returnsInHanded_of_change (C := Try.checked) Try.own started (by kernel_rfl) Try.func3
    (ChangeSpec.witness6 (enc := enc) (C := Try.checked) false ⟨#[], #[.slice none 0 0], []⟩ 8 (by kernel_rfl) (by kernel_rfl) (by kernel_rfl) (by kernel_rfl)) ?_
  intro W base args ds gs before hval0 hW hcnd _
  have hval : ∀ (j : Nat) t v, Try.f3.params[j]? = some t → args[j]? = some v → Value.okWide Try.prog W .any base t v := hval0
  have hW' := hW
  obtain ⟨p, q, hA0, hV, rfl, hfz, hnd⟩ := hW
  have hA : DataW.TrodAll enc Try.prog W 0 (fun _ => true) true Try.f3.params.toList args.toList ds p := hA0
  rw [Try.params3] at hA hval
  obtain ⟨v0, vs, d0, ds', p0, ps', e1, e2, e3, h0, hrest⟩ := trodAll_cons hA
  obtain ⟨e4, e5, e6⟩ := trodAll_nil hrest
  subst e4 e5 e6
  obtain rfl : args = #[v0] := by apply Array.ext'; simpa using e1
  subst e2 e3
  obtain ⟨rfl, rfl⟩ := trodVars_none hV
  obtain ⟨a0, len0, cap0, rfl⟩ := okWide_slice Try.underlying22 (hval 0 22 v0 rfl rfl)
  have k0 := h0
  have lt0 : ∀ x ∈ p0, x.block < W.heap.size := by obtain ⟨m, hm⟩ := k0; exact DataW.trod_lt m _ _ _ hm
  obtain ⟨f0, hf0⟩ := h0
  obtain ⟨A, c, ops, e0, hr, hwf⟩ := ops_open hf0
  simp [Value.cells] at e0
  obtain ⟨rfl, rfl, rfl⟩ := e0
  clear hA0 hval0
  refine (skipPlays_walk W a0 cap0 ops hr hwf).mono fun e W' ⟨he, bel⟩ => ?_
  subst he
  exact ⟨_, rfl, _, _, _, [], _, [], hW', trodAll_mk1 (shut_bool Try.underlying4 _),
    (trodAll_cons_mk (Below.trod Try.laidOut (by kernel_rfl) (of_decide_eq_true (by kernel_rfl)) k0 bel lt0) trodAll_mk0), rfl, bel.frame _, fun h => by cases h⟩

theorem skipPlays_holds : Rows.SkipPlaysSaid :=
  OpenClaim.holds_of_wide 3 Try.f3 rfl rfl rfl rfl rfl rfl rfl ⟨rfl, rfl, rfl, rfl, rfl⟩ rfl rfl rfl rfl rfl (by kernel_rfl) Try.func3 (by kernel_rfl)
    (of_decide_eq_true (by kernel_rfl)) (by unfold Func.isWrapper; rw [if_neg (of_decide_eq_false (by kernel_rfl))]; exact ⟨rfl, rfl⟩)
    (fun os started H enc _ => skipPlays_lifted os started H enc)
#print axioms skipPlays_holds
end Go.Proofs.Ythhdameaihclmaa
