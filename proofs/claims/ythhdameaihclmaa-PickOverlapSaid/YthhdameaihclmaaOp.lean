/- Arguments that are slices of rows, and of ints, opened to their cells. Condition: none. -/
import Derived.Test.YthhdameaihclmaaRf
import Derived.Deep.MidRow
import Derived.ProofKit
import Derived.Deep.Slices
import Derived.Deep.Fields
import Derived.ChangeSame
import Derived.ChangeOld
import Derived.OpenShut
namespace Go.Proofs.Ythhdameaihclmaa
open Go.ChangeShapes Go.WideShapes Go.ChangeAt Go.RowKit Go.Deep Sk
open Go.ChangeMaps (open_string shut_string)

theorem Try.own : ownKnob Try.prog.godebug = none := by kernel_rfl
theorem Try.laidOut : laidOutB Try.prog = true := by kernel_rfl

section
variable {H : Type} {enc : TypeId × Value → H} {P : Program} {w : World} {base : Nat} {spare : Nat → Bool} {held : Bool}
theorem open_slice_fields {t e : TypeId} {fs : Array Field} {fuel : Nat} {cs : List Value} {x : DataW H × List MemPlace} (ht : P.underlying t = some (.slice e)) (he : P.underlying e = some (.struct fs))
    (hone : oneCellFields P fs = true) (hC : P.cellsOf e = fs.size) (h : DataW.trod enc P w base spare held fuel t cs = some x) :
    (cs = [.slice none 0 0] ∧ x = (.nil, [])) ∨
    ∃ (a : Addr) (len cap m : Nat) (D : Nat → DataW H) (Pl : Nat → List MemPlace), cs = [.slice (some a) len cap] ∧ base ≤ a.block ∧ len ≤ cap ∧ cap ≤ maxLen ∧ m = (if spare a.block then cap else len) ∧
      x = (.slice ((List.range len).map D) ((List.range (m - len)).map fun j => D (len + j)), MemPlace.row a (m * fs.size) ++ (List.range m).flatMap Pl) ∧
      ∀ i, i < m → ∃ (ys : List (DataW H × List MemPlace)) (n : Nat), D i = .agg (ys.map (·.1)) ∧ Pl i = ys.flatMap (·.2) ∧ ys.length = fs.size ∧
        ∀ (j : Nat) (f : Field), fs[j]? = some f → ∃ (v : Value) (y : DataW H × List MemPlace), w.cell? (a.add (i * fs.size + j)) = some v ∧ ys[j]? = some y ∧ DataW.trod enc P w base spare held n f.type [v] = some y := by
  rcases open_slice ht h with h0 | ⟨a, len, cap, m, n, D, Pl, hcs, hb, hl, hm, hmm, hx, hi⟩
  · exact .inl h0
  · refine .inr ⟨a, len, cap, m, D, Pl, hcs, hb, hl, hm, hmm, by rw [hC] at hx; exact hx, fun i him => ?_⟩
    obtain ⟨cs', hc, ht'⟩ := hi i him
    rw [hC] at hc
    obtain ⟨ys, n', hn', hy, hlen, hyl, hf⟩ := DataW.trod_struct he ht'
    obtain ⟨_, hcl, hat⟩ := World.cells?_some hc
    simp only [Prod.mk.injEq] at hy
    refine ⟨ys, n', hy.1, hy.2, hyl, fun j f hj => ?_⟩
    obtain ⟨ho, hk⟩ := hone_of hone j f hj
    have hjl : j < fs.size := (Array.getElem?_eq_some_iff.1 hj).1
    have hcell := hat j hjl
    have hv : cs'[j]? = some (cs'[j]'(by omega)) := List.getElem?_eq_getElem (by omega)
    have h1 := hf j f hj
    rw [ho, hk] at h1
    have hone' : (cs'.drop j).take 1 = [cs'[j]'(by omega)] := by
      rw [List.drop_eq_getElem_cons (by omega)]
      rfl
    rw [hone'] at h1
    have hys : ys[j]? = some (ys[j]'(by omega)) := List.getElem?_eq_getElem (by omega)
    refine ⟨_, _, ?_, hys, h1.trans hys⟩
    rw [← Go.Deep.add_add, hcell, hv]
end

theorem spot_none {w : World} {a : Addr} {v : Value} (h : w.cell? a = some v) : a = ⟨a.block, a.off, none⟩ := by
  obtain ⟨b, o, s⟩ := a
  cases s with
  | none => rfl
  | some s =>
    unfold World.cell? at h
    simp only at h
    split at h
    · simp at h
    · cases h


theorem u64_bounds {n : Int} (h : (Lit.int .u64 n).wf = true) : 0 ≤ n ∧ n ≤ 18446744073709551615 := by
  have := h
  simp [Lit.wf, IntKind.min, IntKind.max, IntKind.signed, IntKind.bits] at this
  omega
theorem i64_bounds {n : Int} (h : (Lit.int .i64 n).wf = true) : -9223372036854775808 ≤ n ∧ n ≤ 9223372036854775807 := by
  have := h
  simp [Lit.wf, IntKind.min, IntKind.max, IntKind.signed, IntKind.bits] at this
  omega
theorem Try.hone27 : oneCellFields Try.prog #[{ name := "Key", type := 9, offset := 0, embedded := false, tag := "", pkgPath := "", byteOffset := 0 },
        { name := "Seq", type := 25, offset := 1, embedded := false, tag := "", pkgPath := "", byteOffset := 16 },
        { name := "Kind", type := 3, offset := 2, embedded := false, tag := "", pkgPath := "", byteOffset := 24 },
        { name := "Value", type := 9, offset := 3, embedded := false, tag := "", pkgPath := "", byteOffset := 32 }] = true := by kernel_rfl
theorem Try.cells27 : Try.prog.cellsOf 27 = 4 := by kernel_rfl

theorem rows_open {H : Type} {enc : TypeId × Value → H} {W : World} {base : Nat} {spare : Nat → Bool} {held : Bool} {fuel : Nat} {cs : List Value} {x : DataW H × List MemPlace} (h : DataW.trod enc Try.prog W base spare held fuel 34 cs = some x) :
    ∃ A c l, cs = [.slice A l.length c] ∧ Rows_ W A l ∧ ∀ r ∈ l, 0 ≤ r.seq ∧ r.seq ≤ 18446744073709551615 := by
  rcases open_slice_fields Try.underlying34 Try.underlying27 Try.hone27 Try.cells27 h with ⟨rfl, _⟩ | ⟨a, len, cap, m, D, Pl, rfl, _, hl, hm, hmm, _, hi⟩
  · exact ⟨none, 0, [], rfl, .inl rfl, fun r hr => by simp at hr⟩
  · have hlm : len ≤ m := by rw [hmm]; split <;> omega
    by_cases hz : len = 0
    · subst hz
      exact ⟨some a, cap, [], rfl, .inl rfl, fun r hr => by simp at hr⟩
    obtain ⟨b, o, sp⟩ := a
    obtain rfl : sp = none := by
      obtain ⟨ys, fu, _, _, _, hf⟩ := hi 0 (by omega)
      obtain ⟨v0, y0, c0, _, t0⟩ := hf 0 _ rfl
      simpa [Addr.add] using World.cell?_spot c0
    have key : ∀ n, n ≤ len → ∃ l : List Rw, l.length = n ∧ RowsAt W b o l ∧ ∀ r ∈ l, 0 ≤ r.seq ∧ r.seq ≤ 18446744073709551615 := by
      intro n
      induction n with
      | zero => intro _; exact ⟨[], rfl, fun k r hk => by simp at hk, fun r hr => by simp at hr⟩
      | succ n ih =>
        intro hn
        obtain ⟨l, hll, hra, hwf⟩ := ih (by omega)
        obtain ⟨ys, fu, _, _, _, hf⟩ := hi n (by omega)
        obtain ⟨v0, y0, c0, _, t0⟩ := hf 0 _ rfl
        obtain ⟨v1, y1, c1, _, t1⟩ := hf 1 _ rfl
        obtain ⟨v2, y2, c2, _, t2⟩ := hf 2 _ rfl
        obtain ⟨v3, y3, c3, _, t3⟩ := hf 3 _ rfl
        obtain ⟨s0, e0, _, _⟩ := DataW.trod_string Try.underlying9 t0
        obtain ⟨n1, e1, _, w1⟩ := DataW.trod_int Try.underlying25 t1
        obtain ⟨n2, e2, _, w2⟩ := DataW.trod_int Try.underlying3 t2
        obtain ⟨s3, e3, _, _⟩ := DataW.trod_string Try.underlying9 t3
        injection e0 with e0; injection e1 with e1; injection e2 with e2; injection e3 with e3
        subst e0 e1 e2 e3
        rw [Addr.add_mid] at c0 c1 c2 c3
        refine ⟨l ++ [⟨s0, n1, n2, s3⟩], by simp [hll], fun k r hk => ?_, fun r hr => ?_⟩
        · rw [List.getElem?_append] at hk
          split at hk
          · exact hra k r hk
          · rename_i hge
            have hkn : k = n := by
              rcases Nat.lt_or_ge (k - l.length) 1 with h1 | h1
              · omega
              · rw [List.getElem?_eq_none (by simpa using h1)] at hk; cases hk
            subst hkn
            rw [hll, Nat.sub_self] at hk
            simp at hk
            subst hk
            exact ⟨c0, by rw [Nat.add_assoc]; exact c1, by rw [Nat.add_assoc]; exact c2, by rw [Nat.add_assoc]; exact c3⟩
        · rcases List.mem_append.1 hr with h1 | h1
          · exact hwf r h1
          · simp at h1; subst h1; exact u64_bounds w1
    obtain ⟨l, hll, hra, hwf⟩ := key len (Nat.le_refl _)
    exact ⟨_, cap, l, by rw [hll], .inr ⟨b, o, rfl, hra⟩, hwf⟩

theorem ints_open {H : Type} {enc : TypeId × Value → H} {W : World} {base : Nat} {spare : Nat → Bool} {held : Bool} {fuel : Nat} {cs : List Value} {x : DataW H × List MemPlace} (h : DataW.trod enc Try.prog W base spare held fuel 35 cs = some x) :
    ∃ A c l, cs = [.slice A l.length c] ∧ Ints_ W A l ∧ (∀ z ∈ l, -9223372036854775808 ≤ z ∧ z ≤ 9223372036854775807) ∧ l.length ≤ 9223372036854775807 := by
  rcases open_ints Try.underlying35 Try.underlying3 (by kernel_rfl) h with ⟨rfl, _⟩ | ⟨a, len, cap, zs, rfl, _, hl, hm, hz, _, hcell, hwz⟩
  · exact ⟨none, 0, [], rfl, .inl rfl, fun r hr => by simp at hr, by simp⟩
  · have hlz : len ≤ zs.length := by rw [hz]; split <;> omega
    have hlen : (zs.take len).length = len := by simp; omega
    have hwf : ∀ z ∈ zs.take len, -9223372036854775808 ≤ z ∧ z ≤ 9223372036854775807 := fun z hz' => i64_bounds (hwz z (List.mem_of_mem_take hz'))
    have hle : len ≤ 9223372036854775807 := by unfold maxLen at hm; omega
    by_cases h0 : len = 0
    · subst h0
      exact ⟨some a, cap, [], rfl, .inl rfl, fun r hr => by simp at hr, by simp⟩
    obtain ⟨b, o, sp⟩ := a
    obtain rfl : sp = none := by
      have c0 := hcell 0 (by omega)
      simpa [Addr.add] using World.cell?_spot c0
    refine ⟨_, cap, zs.take len, by rw [hlen], .inr ⟨b, o, rfl, fun k z hk => ?_⟩, hwf, by omega⟩
    obtain ⟨hkl, hkz⟩ := List.getElem?_eq_some_iff.1 hk
    have := hcell k (by rw [hlen] at hkl; omega)
    rw [Addr.add_mid] at this
    rw [this]
    rw [List.getElem_take] at hkz
    simp [show k < zs.length by rw [hlen] at hkl; omega, hkz]

end Go.Proofs.Ythhdameaihclmaa
