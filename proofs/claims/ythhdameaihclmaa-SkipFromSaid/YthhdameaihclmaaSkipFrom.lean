/- SkipFrom holds: for every input it returns true, and each argument reads afterwards as it read before. Condition: none. -/
import Derived.Test.YthhdameaihclmaaFr
import Derived.Test.YthhdameaihclmaaOp
namespace Go.Proofs.Ythhdameaihclmaa
open Go.ChangeShapes Go.WideShapes Go.ChangeAt Go.RowKit Go.Deep Sk
open Go.ChangeMaps (open_string shut_string)

set_option maxHeartbeats 1000000 in
theorem skipFrom_long (w : World) (A : Option Addr) (n c : Nat) (v : Value) (key : ByteArray) (seq : Int) (hl : 100 < n) :
    Calls Try.prog 4 #[.slice A n c, v, .string key, .int .u64 seq] w fun e w' => e = .returned (.bool true) ∧ Below w.heap.size w w' := by
  go_enter Try.func4, Try.ntmps4
  go_wp2_with (go_at_call 7; refine (awake_any _).mono ?_; rintro e7 w7 ⟨rfl, hb7⟩)
  go_ret
  exact ⟨rfl, hb7⟩

theorem skipFrom_walk (w : World) (A A' : Option Addr) (c c' : Nat) (rows : List Rw) (hts : List Int) (key : ByteArray) (seq : Int) (hr : Rows_ w A rows) (hh : Ints_ w A' hts)
    (hwf : ∀ r ∈ rows, 0 ≤ r.seq ∧ r.seq ≤ 18446744073709551615) (hwh : ∀ x ∈ hts, -9223372036854775808 ≤ x ∧ x ≤ 9223372036854775807) (_hm : hts.length ≤ 9223372036854775807) :
    Calls Try.prog 4 #[.slice A rows.length c, .slice A' hts.length c', .string key, .int .u64 seq] w fun e w' => e = .returned (.bool true) ∧ Below w.heap.size w w' := by
  by_cases hl : rows.length ≤ 100
  · exact skipFrom_any w A A' c _ c' rows hts key seq hr hh rfl hl hwf hwh
  · exact skipFrom_long w A _ c _ key seq (by omega)

set_option maxRecDepth 100000 in
theorem skipFrom_lifted (os : Os) (started : os.Started) (H : Type) (enc : TypeId × Value → H) :
    ReturnsInHanded {} Try.checked os 4 .any (Rows.skipFromSpec.pre6 enc Try.prog Try.f4 Rows.skipFromRow.domain false) (Rows.skipFromSpec.post enc Try.prog Try.f4 false true false false) := by
  refine returnsInHanded_of_change (C := Try.checked) Try.own started (by kernel_rfl) Try.func4
    (ChangeSpec.witness6 (enc := enc) (C := Try.checked) false ⟨#[], #[.slice none 0 0, .slice none 0 0, .string ⟨#[]⟩, .int .u64 0], []⟩ 8 (by kernel_rfl) (by kernel_rfl) (by kernel_rfl) (by kernel_rfl)) ?_
  intro W base args ds gs before hval0 hW hcnd _
  have hval : ∀ (j : Nat) t v, Try.f4.params[j]? = some t → args[j]? = some v → Value.okWide Try.prog W .any base t v := hval0
  have hW' := hW
  obtain ⟨p, q, hA0, hV, rfl, hfz, hnd⟩ := hW
  have hA : DataW.TrodAll enc Try.prog W 0 (fun _ => true) true Try.f4.params.toList args.toList ds p := hA0
  rw [Try.params4] at hA hval
  obtain ⟨v0, v1, v2, v3, d0, d1, d2, d3, p0, p1, p2, p3, rfl, rfl, rfl, h0, h1, h2, h3⟩ := trodAll_four hA
  obtain ⟨rfl, rfl⟩ := trodVars_none hV
  obtain ⟨a0, len0, cap0, rfl⟩ := okWide_slice Try.underlying34 (hval 0 34 v0 rfl rfl)
  obtain ⟨a1, len1, cap1, rfl⟩ := okWide_slice Try.underlying35 (hval 1 35 v1 rfl rfl)
  obtain ⟨s, rfl, rfl, rfl, hs⟩ := open_string Try.underlying9 (hval 2 9 v2 rfl rfl) h2
  obtain ⟨n, rfl, rfl, rfl, wn⟩ := open_int Try.underlying25 (hval 3 25 v3 rfl rfl) h3
  have k0 := h0
  have k1 := h1
  have lt0 : ∀ x ∈ p0, x.block < W.heap.size := by obtain ⟨m, hm⟩ := k0; exact DataW.trod_lt m _ _ _ hm
  have lt1 : ∀ x ∈ p1, x.block < W.heap.size := by obtain ⟨m, hm⟩ := k1; exact DataW.trod_lt m _ _ _ hm
  obtain ⟨f0, hf0⟩ := h0
  obtain ⟨f1, hf1⟩ := h1
  obtain ⟨A, c, rows, e0, hr, hwf⟩ := rows_open hf0
  obtain ⟨A', c', hts, e1, hh, hwh, hm⟩ := ints_open hf1
  simp [Value.cells] at e0 e1
  obtain ⟨rfl, rfl, rfl⟩ := e0
  obtain ⟨rfl, rfl, rfl⟩ := e1
  clear hA0 hval0
  refine (skipFrom_walk W a0 a1 cap0 cap1 rows hts s n hr hh hwf hwh hm).mono fun e W' ⟨he, bel⟩ => ?_
  subst he
  exact ⟨_, rfl, _, _, _, [], _, [], hW', trodAll_mk1 (shut_bool Try.underlying4 _),
    (trodAll_cons_mk (Below.trod Try.laidOut (by kernel_rfl) (of_decide_eq_true (by kernel_rfl)) k0 bel lt0) (trodAll_cons_mk (Below.trod Try.laidOut (by kernel_rfl) (of_decide_eq_true (by kernel_rfl)) k1 bel lt1)
      (trodAll_cons_mk (shut_string Try.underlying9 hs) (trodAll_cons_mk (shut_int Try.underlying25 wn) trodAll_mk0)))), rfl, bel.frame _, fun h => by cases h⟩

theorem skipFrom_holds : Rows.SkipFromSaid :=
  OpenClaim.holds_of_wide 4 Try.f4 rfl rfl rfl rfl rfl rfl rfl ⟨rfl, rfl, rfl, rfl, rfl⟩ rfl rfl rfl rfl rfl (by kernel_rfl) Try.func4 (by kernel_rfl)
    (of_decide_eq_true (by kernel_rfl)) (by unfold Func.isWrapper; rw [if_neg (of_decide_eq_false (by kernel_rfl))]; exact ⟨rfl, rfl⟩)
    (fun os started H enc _ => skipFrom_lifted os started H enc)
#print axioms skipFrom_holds
end Go.Proofs.Ythhdameaihclmaa
