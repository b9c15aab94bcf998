/- MemAt holds: for every input it returns true, and each argument reads afterwards as it read before. Condition: none. -/
import Derived.Test.YthhdameaihclmaaMz
import Derived.Test.YthhdameaihclmaaOp
namespace Go.Proofs.Ythhdameaihclmaa
open Go.ChangeShapes Go.WideShapes Go.ChangeAt Go.RowKit Go.Deep Sk
open Go.ChangeMaps (open_string shut_string)

theorem Try.cells80 : Try.prog.cellsOf 80 = 3 := by kernel_rfl
theorem Try.cells57 : Try.prog.cellsOf 57 = 1 := by kernel_rfl
theorem Try.hone80 : oneCellFields Try.prog #[{ name := "Kind", type := 3, offset := 0, embedded := false, tag := "", pkgPath := "", byteOffset := 0 },
        { name := "Key", type := 9, offset := 1, embedded := false, tag := "", pkgPath := "", byteOffset := 8 },
        { name := "Value", type := 9, offset := 2, embedded := false, tag := "", pkgPath := "", byteOffset := 24 }] = true := by kernel_rfl

theorem last_hit {α : Type} {l : List α} {n k : Nat} {y r : α} (hll : l.length = n) (hk : (l ++ [y])[k]? = some r) (hge : ¬ k < l.length) : k = n ∧ r = y := by
  rw [List.getElem?_append_right (by omega)] at hk
  have hkn : k = n := by
    rcases Nat.lt_or_ge (k - l.length) 1 with h1 | h1
    · omega
    · rw [List.getElem?_eq_none (by simpa using h1)] at hk; cases hk
  subst hkn
  rw [hll, Nat.sub_self] at hk
  simp at hk
  exact ⟨rfl, hk.symm⟩

theorem wrs_open {H : Type} {enc : TypeId × Value → H} {W : World} {base : Nat} {spare : Nat → Bool} {held : Bool} {fuel : Nat} {cs : List Value} {x : DataW H × List MemPlace} (h : DataW.trod enc Try.prog W base spare held fuel 57 cs = some x) :
    ∃ A c l, cs = [.slice A l.length c] ∧ Wrs W A l := by
  rcases open_slice_fields Try.underlying57 Try.underlying80 Try.hone80 Try.cells80 h with ⟨rfl, _⟩ | ⟨a, len, cap, m, D, Pl, rfl, _, hl, hm, hmm, _, hi⟩
  · exact ⟨none, 0, [], rfl, .inl rfl⟩
  · have hlm : len ≤ m := by rw [hmm]; split <;> omega
    by_cases hz : len = 0
    · subst hz
      exact ⟨some a, cap, [], rfl, .inl rfl⟩
    obtain ⟨b, o, sp⟩ := a
    obtain rfl : sp = none := by
      obtain ⟨ys, fu, _, _, _, hf⟩ := hi 0 (by omega)
      obtain ⟨v0, y0, c0, _, t0⟩ := hf 0 _ rfl
      simpa [Addr.add] using World.cell?_spot c0
    have key : ∀ n, n ≤ len → ∃ l : List Wr, l.length = n ∧ ∀ k x, l[k]? = some x → WrAt W b (o + k * 3) x := by
      intro n
      induction n with
      | zero => intro _; exact ⟨[], rfl, fun k r hk => by simp at hk⟩
      | succ n ih =>
        intro hn
        obtain ⟨l, hll, hra⟩ := ih (by omega)
        obtain ⟨ys, fu, _, _, _, hf⟩ := hi n (by omega)
        obtain ⟨v0, y0, c0, _, t0⟩ := hf 0 _ rfl
        obtain ⟨v1, y1, c1, _, t1⟩ := hf 1 _ rfl
        obtain ⟨v2, y2, c2, _, t2⟩ := hf 2 _ rfl
        obtain ⟨n0, e0, _, _⟩ := DataW.trod_int Try.underlying3 t0
        obtain ⟨s1, e1, _, _⟩ := DataW.trod_string Try.underlying9 t1
        obtain ⟨s2, e2, _, _⟩ := DataW.trod_string Try.underlying9 t2
        injection e0 with e0; injection e1 with e1; injection e2 with e2
        subst e0 e1 e2
        rw [Addr.add_mid] at c0 c1 c2
        refine ⟨l ++ [⟨n0, s1, s2⟩], by simp [hll], fun k r hk => ?_⟩
        by_cases hlt : k < l.length
        · rw [List.getElem?_append_left hlt] at hk
          exact hra k r hk
        · obtain ⟨rfl, rfl⟩ := last_hit hll hk hlt
          exact ⟨c0, by rw [Nat.add_assoc]; exact c1, by rw [Nat.add_assoc]; exact c2⟩
    obtain ⟨l, hll, hra⟩ := key len (Nat.le_refl _)
    exact ⟨_, cap, l, by rw [hll], .inr ⟨b, o, rfl, hra⟩⟩

theorem wss_open {H : Type} {enc : TypeId × Value → H} {W : World} {base : Nat} {spare : Nat → Bool} {held : Bool} {fuel : Nat} {cs : List Value} {x : DataW H × List MemPlace} (h : DataW.trod enc Try.prog W base spare held fuel 55 cs = some x) :
    ∃ A c l, cs = [.slice A l.length c] ∧ Wss W A l := by
  rcases open_slice Try.underlying55 h with ⟨rfl, _⟩ | ⟨a, len, cap, m, nf, D, Pl, rfl, _, hl, hm, hmm, _, hi⟩
  · exact ⟨none, 0, [], rfl, .inl rfl⟩
  · have hlm : len ≤ m := by rw [hmm]; split <;> omega
    by_cases hz : len = 0
    · subst hz
      exact ⟨some a, cap, [], rfl, .inl rfl⟩
    have one : ∀ i, i < m → ∃ y : Sl, W.cell? (a.add i) = some (.slice y.a y.ws.length y.c) ∧ Wrs W y.a y.ws := by
      intro i him
      obtain ⟨cs', hc, ht⟩ := hi i him
      rw [Try.cells57] at hc
      obtain ⟨_, hcl, hat⟩ := World.cells?_some hc
      obtain ⟨A', c', l', rfl, hw⟩ := wrs_open ht
      refine ⟨⟨A', c', l'⟩, ?_, hw⟩
      have := hat 0 (by omega)
      simpa [Addr.add] using this
    obtain ⟨b, o, sp⟩ := a
    obtain rfl : sp = none := by
      obtain ⟨y, c0, _⟩ := one 0 (by omega)
      simpa [Addr.add] using World.cell?_spot c0
    have key : ∀ n, n ≤ len → ∃ l : List Sl, l.length = n ∧ ∀ k x, l[k]? = some x → W.cell? ⟨b, o + k, none⟩ = some (.slice x.a x.ws.length x.c) ∧ Wrs W x.a x.ws := by
      intro n
      induction n with
      | zero => intro _; exact ⟨[], rfl, fun k r hk => by simp at hk⟩
      | succ n ih =>
        intro hn
        obtain ⟨l, hll, hra⟩ := ih (by omega)
        obtain ⟨y, c0, hw⟩ := one n (by omega)
        rw [Addr.add_mid] at c0
        refine ⟨l ++ [y], by simp [hll], fun k r hk => ?_⟩
        by_cases hlt : k < l.length
        · rw [List.getElem?_append_left hlt] at hk
          exact hra k r hk
        · obtain ⟨rfl, rfl⟩ := last_hit hll hk hlt
          exact ⟨c0, hw⟩
    obtain ⟨l, hll, hra⟩ := key len (Nat.le_refl _)
    exact ⟨_, cap, l, by rw [hll], .inr ⟨b, o, rfl, hra⟩⟩

set_option maxRecDepth 100000 in
theorem memAt_lifted (os : Os) (started : os.Started) (H : Type) (enc : TypeId × Value → H) :
    ReturnsInHanded {} Try.checked os 5 .any (Rows.memAtSpec.pre6 enc Try.prog Try.f5 Rows.memAtRow.domain false) (Rows.memAtSpec.post enc Try.prog Try.f5 false true false false) := by
  refine returnsInHanded_of_change (C := Try.checked) Try.own started (by kernel_rfl) Try.func5
    (ChangeSpec.witness6 (enc := enc) (C := Try.checked) false ⟨#[], #[.slice none 0 0, .int .i64 0, .string ⟨#[]⟩], []⟩ 8 (by kernel_rfl) (by kernel_rfl) (by kernel_rfl) (by kernel_rfl)) ?_
  intro W base args ds gs before hval0 hW hcnd _
  have hval : ∀ (j : Nat) t v, Try.f5.params[j]? = some t → args[j]? = some v → Value.okWide Try.prog W .any base t v := hval0
  have hW' := hW
  obtain ⟨p, q, hA0, hV, rfl, hfz, hnd⟩ := hW
  have hA : DataW.TrodAll enc Try.prog W 0 (fun _ => true) true Try.f5.params.toList args.toList ds p := hA0
  rw [Try.params5] at hA hval
  obtain ⟨v0, v1, v2, d0, d1, d2, p0, p1, p2, rfl, rfl, rfl, h0, h1, h2⟩ := trodAll_three hA
  obtain ⟨rfl, rfl⟩ := trodVars_none hV
  obtain ⟨a0, len0, cap0, rfl⟩ := okWide_slice Try.underlying55 (hval 0 55 v0 rfl rfl)
  obtain ⟨n, rfl, rfl, rfl, wn⟩ := open_int Try.underlying3 (hval 1 3 v1 rfl rfl) h1
  obtain ⟨s, rfl, rfl, rfl, hs⟩ := open_string Try.underlying9 (hval 2 9 v2 rfl rfl) h2
  have k0 := h0
  have lt0 : ∀ x ∈ p0, x.block < W.heap.size := by obtain ⟨m, hm⟩ := k0; exact DataW.trod_lt m _ _ _ hm
  obtain ⟨f0, hf0⟩ := h0
  obtain ⟨A, c, ls, e0, hr⟩ := wss_open hf0
  simp [Value.cells] at e0
  obtain ⟨rfl, rfl, rfl⟩ := e0
  clear hA0 hval0
  refine (memAt_walk W a0 cap0 ls n s hr).mono fun e W' ⟨he, bel⟩ => ?_
  subst he
  exact ⟨_, rfl, _, _, _, [], _, [], hW', trodAll_mk1 (shut_bool Try.underlying4 _),
    (trodAll_cons_mk (Below.trod Try.laidOut (by kernel_rfl) (of_decide_eq_true (by kernel_rfl)) k0 bel lt0)
      (trodAll_cons_mk (shut_int Try.underlying3 wn) (trodAll_cons_mk (shut_string Try.underlying9 hs) trodAll_mk0))), rfl, bel.frame _, fun h => by cases h⟩

theorem memAt_holds : Rows.MemAtSaid :=
  OpenClaim.holds_of_wide 5 Try.f5 rfl rfl rfl rfl rfl rfl rfl ⟨rfl, rfl, rfl, rfl, rfl⟩ rfl rfl rfl rfl rfl (by kernel_rfl) Try.func5 (by kernel_rfl)
    (of_decide_eq_true (by kernel_rfl)) (by unfold Func.isWrapper; rw [if_neg (of_decide_eq_false (by kernel_rfl))]; exact ⟨rfl, rfl⟩)
    (fun os started H enc _ => memAt_lifted os started H enc)
#print axioms memAt_holds
end Go.Proofs.Ythhdameaihclmaa
