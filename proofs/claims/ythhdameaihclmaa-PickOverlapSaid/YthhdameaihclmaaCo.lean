/- The functions all and whole of the statements: the rows of a list from a place on, or all, in memory of their own. Condition: at most 2^32 rows. -/
import Derived.Test.YthhdameaihclmaaRh
import Derived.Maps.AppendAt
namespace Go.Proofs.Ythhdameaihclmaa
open Go.RowKit Go.Shelf Sk
attribute [local go_sem] Oper.semAt_some

theorem empty_list : (⟨#[]⟩ : ByteArray).toList = [] := by rw [ByteArray.toList_eq]
def rowL (r : Rw) : List Value := [.string r.key, .int .u64 r.seq, .int .i64 r.kind, .string r.val]
def flat (l : List Rw) : List Value := l.flatMap rowL
theorem flat_snoc (l : List Rw) (r : Rw) : flat (l ++ [r]) = flat l ++ rowL r := by simp [flat]
theorem flat_get (l : List Rw) (k j : Nat) (r : Rw) (hk : l[k]? = some r) (hj : j < 4) : (flat l)[k * 4 + j]? = (rowL r)[j]? := by
  induction l generalizing k with
  | nil => simp at hk
  | cons x l ih =>
    have hx : (rowL x).length = 4 := rfl
    rw [flat, List.flatMap_cons]
    cases k with
    | zero =>
      simp at hk; subst hk
      rw [List.getElem?_append_left (by omega)]; congr 1; omega
    | succ k =>
      rw [List.getElem?_append_right (by omega), hx, show (k + 1) * 4 + j - 4 = k * 4 + j by omega]
      exact ih k (by simpa using hk)
theorem Try.info27 : (Try.prog.info? 27).map (fun i => (i.zero, i.size, i.bytes)) = some (some (.agg zeroRow), 4, 48) := by kernel_rfl
theorem nil46 (a b c : Value) (w : World) : (binOp .eql 76 (.func (.func 46) #[] #[a, b, c]) .nilFunc).run Try.prog w = .ok (.bool false) w := by kernel_rfl
/-- A slice that a call owns reads as rows. -/
theorem rows_of_own {w : World} {n₀ n : Nat} {v : Value} {l : List Rw} (h : w.ownsRow n₀ 27 4 v n (flat l)) (hn : n = l.length) : ∃ A c, v = .slice A l.length c ∧ Rows_ w A l := by
  subst hn
  rcases h.2 with ⟨rfl, h0⟩ | ⟨g, cap, cur, rfl, _⟩
  · exact ⟨none, 0, by rw [h0], .inl (List.eq_nil_of_length_eq_zero h0)⟩
  · refine ⟨_, cap, rfl, .inr ⟨g, 0, rfl, fun k r hk => ?_⟩⟩
    have hc := h.cells (g := g) rfl
    have f := fun j hj => (flat_get l k j r hk hj)
    have e : ∀ j, (⟨g, 0, none⟩ : Addr).add (k * 4 + j) = ⟨g, k * 4 + j, none⟩ := fun j => by rw [Addr.add_mid, Nat.zero_add]
    refine ⟨?_, ?_, ?_, ?_⟩
    · have := hc _ _ (f 0 (by omega)); rw [e] at this; simpa using this
    · have := hc _ _ (f 1 (by omega)); rw [e] at this; simpa using this
    · have := hc _ _ (f 2 (by omega)); rw [e] at this; simpa using this
    · have := hc _ _ (f 3 (by omega)); rw [e] at this; simpa using this

def OutI (n₀ b : Nat) (l : List Rw) (W : World) : Prop := ∃ v, Boxed W b 34 v ∧ W.ownsRow n₀ 27 4 v l.length (flat l) ∧ True
theorem outI_own (n₀ b : Nat) : Own (fun (l : List Rw) W => OutI n₀ b l W) := holdsRow_own n₀ b 34 27 4 (fun (l : List Rw) => l.length) flat (fun _ _ => True)
theorem OutI.alloc {n₀ b : Nat} {l : List Rw} {W : World} (h : OutI n₀ b l W) (o : Obj) : OutI n₀ b l (W.alloc o) := by
  obtain ⟨v, h1, h2, h3⟩ := h
  exact ⟨v, h1.alloc o, h2.alloc o, h3⟩
theorem news_row (W : World) (r : Rw) : ∀ j u, (rowL r)[j]? = some u → (W.alloc (.cells (rowC r) 27)).cell? ((⟨W.heap.size, 0, none⟩ : Addr).add j) = some u := fun j u hu => by
  rw [Addr.add_mid, Nat.zero_add, cell_of (heap_alloc_new W (.cells (rowC r) 27))]
  match j with
  | 0 => simpa [rowC, rowL] using hu
  | 1 => simpa [rowC, rowL] using hu
  | 2 => simpa [rowC, rowL] using hu
  | 3 => simpa [rowC, rowL] using hu
  | j + 4 => simp [rowL] at hu

def WhA (w : World) (B : Nat) (x : Rw) (a : Act) (W : World) : Prop :=
  ∃ Bx, w.heap.size < Bx ∧ W.heap[Bx]? = some (.cells (rowC x) 27 (0, 0)) ∧ a = { tmps := #[Value.pointer (some { block := B, off := 0 }), undef, Value.slice none 0 0,
          Value.pointer (some { block := w.heap.size, off := 0 }),
          Value.func (Fn.func 46) #[]
            #[Value.pointer (some { block := w.heap.size + 1, off := 0 }),
              Value.pointer (some { block := w.heap.size + 1 + 1, off := 0 }),
              Value.pointer (some { block := w.heap.size + 1 + 1 + 1, off := 0 })],
          .pointer (some ⟨Bx, 0, none⟩), Value.pointer (some { block := B, off := 0 }),
          Value.func (Fn.func 46) #[]
            #[Value.pointer (some { block := w.heap.size + 1, off := 0 }),
              Value.pointer (some { block := w.heap.size + 1 + 1, off := 0 }),
              Value.pointer (some { block := w.heap.size + 1 + 1 + 1, off := 0 })],
          Value.func (Fn.func 46) #[]
            #[Value.pointer (some { block := w.heap.size + 1, off := 0 }),
              Value.pointer (some { block := w.heap.size + 1 + 1, off := 0 }),
              Value.pointer (some { block := w.heap.size + 1 + 1 + 1, off := 0 })],
          Value.bool false,
          Value.func (Fn.func 46) #[]
            #[Value.pointer (some { block := w.heap.size + 1, off := 0 }),
              Value.pointer (some { block := w.heap.size + 1 + 1, off := 0 }),
              Value.pointer (some { block := w.heap.size + 1 + 1 + 1, off := 0 })],
          .agg #[.string x.key, .int .u64 x.seq, .int .i64 x.kind, .string x.val], undef, undef, undef, undef, undef], defers := [] }

/-- A slice of rows that the call hands back in memory of its own. -/
def OwnRows (w : World) (l : List Rw) (e : Ending) (w' : World) : Prop := ∃ v, e = .returned v ∧ w'.ownsRow w.heap.size 27 4 v l.length (flat l) ∧ Below w.heap.size w w'

set_option maxRecDepth 100000 in
set_option maxHeartbeats 2000000 in
theorem whole_any (w : World) (B T : Nat) (rest : Array Value) (ns : List Nd) (h : SL w B T rest ns) (hlen : ns.length ≤ 4294967296) :
    Calls Try.prog 19 #[.pointer (some ⟨B, 0, none⟩)] w (OwnRows w (rs ns)) := by
  obtain ⟨i0, hi, hz0, hz1, hz2⟩ := info_parts Try.info27
  refine (callsIn_wide (n := 5)).1 ?_
  have hnil := nil46
  have HO := Lib.hid (heap_alloc_new w (.cells #[.slice none 0 0] 34))
  have HB0 := Lib.hid ((Below.refl w.heap.size w).alloc (Nat.le_refl _) (.cells #[.slice none 0 0] 34))
  refine callsIn_of_wp_marks Try.func19 rfl trivial ?_ rfl
  simp only [Try.ntmps19, List.size_toArray, List.length_cons, List.length_nil, Nat.reduceAdd, Nat.reduceSub, Array.replicate_succ, Array.replicate_zero, List.push_toArray, List.append_toArray, List.nil_append, List.cons_append]
  gi_wp2_with (refine ⟨trivial, ?_⟩; gi_at_call 34; refine (callsIn_wide.2 (all_any _ _)).mono ?_; rintro e1 w1 ⟨rfl, hB1, hz1', c1, c2, c3⟩)
  clear hnil
  simp only [World.size_alloc] at hz1' c1 c2 c3
  have hbox : Boxed w1 w.heap.size 34 (.slice none 0 0) := heap_on hB1 HO.out
  have hb1 : Below w.heap.size w w1 := below_step HB0.out hB1 (Nat.le_refl _)
  have hblt : ∀ b, blks B ns b → b < w.heap.size := fun b hb => h.blk_lt hb
  have hpz : place (rs ns) ⟨#[]⟩ 18446744073709551615 = 0 := place_zero _ _ _ empty_list (fun r hr => by
    obtain ⟨n, hn, rfl⟩ := List.mem_map.1 hr
    exact (h.wf n hn).2)
  have hseq := from1_stops (5 - 1) (by omega) w1 B T rest ns ⟨#[]⟩ 18446744073709551615 _ _ _ w.heap.size (h.below hb1) hlen c1 c2 c3 hblt
  rw [hpz] at hseq
  refine wpIn_rangeFunc_ownH rfl (by omega) (gf := 46) (lb := #[.pointer (some ⟨w.heap.size + 1, 0, none⟩), .pointer (some ⟨w.heap.size + 1 + 1, 0, none⟩), .pointer (some ⟨w.heap.size + 1 + 1 + 1, 0, none⟩)]) rfl trivial (enters_of Try.func46 (by kernel_rfl) rfl)
    hseq belowK_t (belowK_b (by omega)) (Below.refl _ _) (fun _ => rfl)
    (fun pre W => OutI w.heap.size w.heap.size pre W ∧ Below w.heap.size w W) (fun _ _ _ => False)
    ((Own.from (outI_own _ _) _).and (ownFrom_below (Nat.le_refl _) (by omega))) (fun _ _ _ _ _ hs _ _ => hs)
    ⟨⟨_, hbox, World.ownsRow_nil _ _ _ _, trivial⟩, hb1⟩ (WhA w B)
    (fun x a' => fun s X Y row hs hg hr => by
      obtain ⟨Bx, g0, g1, g2⟩ := hs
      exact ⟨Bx, g0, Own.from (own_cells _ (fun (_ : Unit) => rowC x) 27 (0, 0)) _ s X Y row g1 hg hr, g2⟩)
    ?assign ?body ?done ?stop
  case assign =>
    rintro l pre x W K ⟨g1, g3⟩ hK
    dsimp only [rowE]
    have hlt := g1.choose_spec.1.lt
    gi_wp2
    have hW : Below W.heap.size W (W.alloc (.cells (rowC x) 27)) := (Below.refl _ _).alloc (Nat.le_refl _) _
    exact hK _ _ ((KeepsOthers.alloc _ _).from _) (hW.mono (by omega)) ⟨g1.alloc _, below_step g3 hW (Nat.le_refl _)⟩ ⟨W.heap.size, hlt, heap_alloc_new _ _, rfl⟩
  case body =>
    rintro l pre x a' W hl ⟨rr, hr⟩ ⟨⟨v, hv, hrow, _⟩, hB⟩ ⟨Bx, hBx, bX, rfl⟩ hlt
    have e0 : W.cell? ⟨Bx, 0, none⟩ = some (.string x.key) := cell_of bX 0
    have e1 : W.cell? ⟨Bx, 1, none⟩ = some (.int .u64 x.seq) := cell_of bX 1
    have e2 : W.cell? ⟨Bx, 2, none⟩ = some (.int .i64 x.kind) := cell_of bX 2
    have e3 : W.cell? ⟨Bx, 3, none⟩ = some (.string x.val) := cell_of bX 3
    have hc1 := hv.cell
    clear bX hr
    gi_wp2_with (gi_at_builtin; refine wpListIn_append_own _ rfl _ _ 34 rfl w.heap.size 27 i0 (.agg zeroRow) 4 48 Try.underlying34 hi hz0 hz1 hz2 rfl (by decide) v pre.length (flat pre) rfl (hrow.alloc _) ⟨W.heap.size, 0, none⟩ 1 1 (rowL x) rfl rfl (news_row W x) ?_ ?_ ?_ ?_ ?_
                 · intro u hu; simp only [rowL, List.mem_cons, List.not_mem_nil, or_false] at hu; rcases hu with rfl | rfl | rfl | rfl <;> rfl
                 · simp only [maxLen]; omega
                 · omega
                 · have := hv.lt; simp; omega
                 intro v' w2 hown' hgrow _
                 obtain ⟨g', cap', rfl⟩ := ownsRow_succ hown'
                 obtain ⟨hv1, hv2, hr2, hk2, hb2⟩ := hv.appended (by decide) hrow (Nat.le_of_lt hv.lt) (Nat.le_refl _) hown' hgrow
                 have hc1 := hv1.cell
                 have hf1 := hv1.frozen)
    exact ⟨hk2.from _, hb2, ⟨_, hv2, by rw [List.length_append, flat_snoc]; exact hr2, trivial⟩, hB.trans hb2⟩
  case done =>
    rintro D ys W hD rfl ⟨⟨v, hv, hrow, _⟩, hB⟩ hK
    have hc := hv.cell
    gi_wp2
    refine ⟨by simp, .inl ⟨_, _, rfl, run_takeDeferred hK, ?_⟩⟩
    have hzb := hb1.size
    exact ⟨_, results_tmp rfl _ _ _, v, rfl, ownsRow_putObj hrow _ hK rfl, hB.trans (belowK_b (w := w) (Nat.le_refl _) _ D _ _ (by omega) hK rfl rfl)⟩
  case stop =>
    rintro D c pre W _ _ h _
    exact h.elim

def CoA (w : World) (B : Nat) (key : ByteArray) (seq most : Int) (x : Rw) (a : Act) (W : World) : Prop :=
  ∃ Bx, w.heap.size + 1 < Bx ∧ W.heap[Bx]? = some (.cells (rowC x) 27 (0, 0)) ∧ a = { tmps := #[Value.pointer (some { block := B, off := 0 }), Value.string key, Value.int IntKind.u64 seq,
          Value.int IntKind.i64 most, undef, undef, undef, Value.pointer (some { block := w.heap.size, off := 0 }),
          Value.slice none 0 0, Value.pointer (some { block := w.heap.size + 1, off := 0 }),
          Value.func (Fn.func 46) #[]
            #[Value.pointer (some { block := w.heap.size + 1 + 1, off := 0 }),
              Value.pointer (some { block := w.heap.size + 1 + 1 + 1, off := 0 }),
              Value.pointer (some { block := w.heap.size + 1 + 1 + 1 + 1, off := 0 })],
          .pointer (some ⟨Bx, 0, none⟩), Value.pointer (some { block := B, off := 0 }), Value.string key, Value.int IntKind.u64 seq,
          Value.func (Fn.func 46) #[]
            #[Value.pointer (some { block := w.heap.size + 1 + 1, off := 0 }),
              Value.pointer (some { block := w.heap.size + 1 + 1 + 1, off := 0 }),
              Value.pointer (some { block := w.heap.size + 1 + 1 + 1 + 1, off := 0 })],
          Value.func (Fn.func 46) #[]
            #[Value.pointer (some { block := w.heap.size + 1 + 1, off := 0 }),
              Value.pointer (some { block := w.heap.size + 1 + 1 + 1, off := 0 }),
              Value.pointer (some { block := w.heap.size + 1 + 1 + 1 + 1, off := 0 })],
          Value.bool false,
          Value.func (Fn.func 46) #[]
            #[Value.pointer (some { block := w.heap.size + 1 + 1, off := 0 }),
              Value.pointer (some { block := w.heap.size + 1 + 1 + 1, off := 0 }),
              Value.pointer (some { block := w.heap.size + 1 + 1 + 1 + 1, off := 0 })],
          .agg #[.string x.key, .int .u64 x.seq, .int .i64 x.kind, .string x.val], undef, undef, undef, undef, undef, undef, undef, undef, undef], defers := [] }
/-- How many rows are taken: 'most' of them, or all. -/
def takeM (most : Int) (l : List Rw) : List Rw := if 0 ≤ most ∧ most < l.length then l.take most.toNat else l
def CoI (w : World) (most : Int) (pre : List Rw) (W : World) : Prop :=
  OutI w.heap.size (w.heap.size + 1) pre W ∧ Boxed W w.heap.size 3 (.int .i64 most) ∧ Below w.heap.size w W ∧ ((0 ≤ most) → (pre.length : Int) ≤ most)
def CoX (w : World) (most : Int) (c : Code) (pre : List Rw) (W : World) : Prop :=
  ∃ p0 x, pre = p0 ++ [x] ∧ c = .exit 0 ∧ (p0.length : Int) = most ∧ OutI w.heap.size (w.heap.size + 1) p0 W ∧ Below w.heap.size w W

set_option maxRecDepth 100000 in
set_option maxHeartbeats 2000000 in
theorem collect_any (w : World) (B T : Nat) (rest : Array Value) (ns : List Nd) (key : ByteArray) (seq most : Int) (h : SL w B T rest ns) (hlen : ns.length ≤ 4294967296) :
    Calls Try.prog 13 #[.pointer (some ⟨B, 0, none⟩), .string key, .int .u64 seq, .int .i64 most] w (OwnRows w (takeM most ((rs ns).drop (place (rs ns) key seq)))) := by
  obtain ⟨i0, hi, hz0, hz1, hz2⟩ := info_parts Try.info27
  refine (callsIn_wide (n := 5)).1 ?_
  have hnil := nil46
  have H7 := Lib.hid (heap_alloc2_old w (.cells #[.int .i64 most] 3) (.cells #[.slice none 0 0] 34))
  have HO := Lib.hid (heap_alloc2_new w (.cells #[.int .i64 most] 3) (.cells #[.slice none 0 0] 34))
  have HB0 := Lib.hid (((Below.refl w.heap.size w).alloc (Nat.le_refl _) (.cells #[.int .i64 most] 3)).alloc (by simp) (.cells #[.slice none 0 0] 34))
  refine callsIn_of_wp_marks Try.func13 rfl trivial ?_ rfl
  simp only [Try.ntmps13, List.size_toArray, List.length_cons, List.length_nil, Nat.reduceAdd, Nat.reduceSub, Array.replicate_succ, Array.replicate_zero, List.push_toArray, List.append_toArray, List.nil_append, List.cons_append]
  gi_wp2_with (refine ⟨trivial, ?_⟩; gi_at_call 33; refine (callsIn_wide.2 (from_any _ _ _ _)).mono ?_; rintro e1 w1 ⟨rfl, hB1, hz1', c1, c2, c3⟩)
  clear hnil
  simp only [World.size_alloc] at hz1' c1 c2 c3
  have hbox : Boxed w1 (w.heap.size + 1) 34 (.slice none 0 0) := heap_on hB1 HO.out
  have hbox7 : Boxed w1 w.heap.size 3 (.int .i64 most) := heap_on hB1 H7.out
  have hb1 : Below w.heap.size w w1 := below_step HB0.out hB1 (Nat.le_refl _)
  have hblt : ∀ b, blks B ns b → b < w.heap.size := fun b hb => h.blk_lt hb
  have hseq := from1_stops (5 - 1) (by omega) w1 B T rest ns key seq _ _ _ w.heap.size (h.below hb1) hlen c1 c2 c3 hblt
  refine wpIn_rangeFunc_ownH rfl (by omega) (gf := 46) (lb := #[.pointer (some ⟨w.heap.size + 1 + 1, 0, none⟩), .pointer (some ⟨w.heap.size + 1 + 1 + 1, 0, none⟩), .pointer (some ⟨w.heap.size + 1 + 1 + 1 + 1, 0, none⟩)]) rfl trivial (enters_of Try.func46 (by kernel_rfl) rfl)
    hseq belowK_t (belowK_b (by omega)) (Below.refl _ _) (fun _ => rfl)
    (CoI w most) (CoX w most)
    ((Own.from (outI_own _ _) _).and ((Own.from (boxed_own _ _ (fun _ => .int .i64 most)) _).and ((ownFrom_below (Nat.le_refl _) (by omega)).and (ownFrom_pure _ _))))
    (fun c => fun s X Y row hs hg hr => by
      obtain ⟨p0, x, g1, g2, g3, g4, g5⟩ := hs
      exact ⟨p0, x, g1, g2, g3, Own.from (outI_own _ _) _ p0 X Y row g4 hg hr, ownFrom_below (Nat.le_refl _) (by omega) s X Y row g5 hg hr⟩)
    ⟨⟨_, hbox, World.ownsRow_nil _ _ _ _, trivial⟩, hbox7, hb1, fun h => h⟩ (CoA w B key seq most)
    (fun x a' => fun s X Y row hs hg hr => by
      obtain ⟨Bx, g0, g1, g2⟩ := hs
      exact ⟨Bx, g0, Own.from (own_cells _ (fun (_ : Unit) => rowC x) 27 (0, 0)) _ s X Y row g1 hg hr, g2⟩)
    ?assign ?body ?done ?stop
  case assign =>
    rintro l pre x W K ⟨g1, g2, g3, g4⟩ hK
    dsimp only [rowE]
    have hlt := g1.choose_spec.1.lt
    gi_wp2
    have hW : Below W.heap.size W (W.alloc (.cells (rowC x) 27)) := (Below.refl _ _).alloc (Nat.le_refl _) _
    exact hK _ _ ((KeepsOthers.alloc _ _).from _) (hW.mono (by omega)) ⟨g1.alloc _, g2.alloc _, below_step g3 hW (Nat.le_refl _), g4⟩ ⟨W.heap.size, hlt, heap_alloc_new _ _, rfl⟩
  case body =>
    rintro l pre x a' W hl ⟨rr, hr⟩ ⟨⟨v, hv, hrow, _⟩, h7, hB, hm⟩ ⟨Bx, hBx, bX, rfl⟩ hlt
    have e0 : W.cell? ⟨Bx, 0, none⟩ = some (.string x.key) := cell_of bX 0
    have e1 : W.cell? ⟨Bx, 1, none⟩ = some (.int .u64 x.seq) := cell_of bX 1
    have e2 : W.cell? ⟨Bx, 2, none⟩ = some (.int .i64 x.kind) := cell_of bX 2
    have e3 : W.cell? ⟨Bx, 3, none⟩ = some (.string x.val) := cell_of bX 3
    have hc1 := hv.cell
    have hc7 := h7.cell
    have HM := Lib.hid hm
    clear bX hr hm
    obtain ⟨A, c, hA⟩ : ∃ A c, v = .slice A pre.length c := by
      obtain ⟨A, c, h1, _⟩ := rows_of_own hrow rfl
      exact ⟨A, c, h1⟩
    subst hA
    by_cases heq : (pre.length : Int) = most
    · subst heq
      gi_wp2
      exact ⟨KeepsFrom.refl _ _, pre, x, rfl, rfl, rfl, ⟨_, hv, hrow, trivial⟩, hB⟩
    · gi_wp2_with (gi_at_builtin; refine wpListIn_append_own _ rfl _ _ 34 rfl w.heap.size 27 i0 (.agg zeroRow) 4 48 Try.underlying34 hi hz0 hz1 hz2 rfl (by decide) (.slice A pre.length c) pre.length (flat pre) rfl (hrow.alloc _) ⟨W.heap.size, 0, none⟩ 1 1 (rowL x) rfl rfl (news_row W x) ?_ ?_ ?_ ?_ ?_
                   · intro u hu; simp only [rowL, List.mem_cons, List.not_mem_nil, or_false] at hu; rcases hu with rfl | rfl | rfl | rfl <;> rfl
                   · simp only [maxLen]; omega
                   · omega
                   · have := hv.lt; simp; omega
                   intro v' w2 hown' hgrow _
                   obtain ⟨g', cap', rfl⟩ := ownsRow_succ hown'
                   obtain ⟨hv1, hv2, hr2, hk2, hb2⟩ := hv.appended (by decide) hrow (by have := hv.lt; omega) (by omega) hown' hgrow
                   have h72 := ((h7.alloc (.cells #[.string x.key, .int .u64 x.seq, .int .i64 x.kind, .string x.val] 27)).kept hgrow (h7.not_row (by decide) hrow)).kept (grownBy_setCell' w2 (w.heap.size + 1) (.slice (some ⟨g', 0, none⟩) (pre.length + 1) cap')) (by simp)
                   have hc1 := hv1.cell
                   have hf1 := hv1.frozen)
      have hm' := HM.out
      exact ⟨hk2.from _, hb2, ⟨_, hv2, by rw [List.length_append, flat_snoc]; exact hr2, trivial⟩, h72, hB.trans hb2, fun h0 => by have := hm' h0; simp; omega⟩
  case done =>
    rintro D ys W hD rfl ⟨⟨v, hv, hrow, _⟩, h7, hB, hm⟩ hK
    have hc := hv.cell
    have hfin : takeM most ((rs ns).drop (place (rs ns) key seq)) = (rs ns).drop (place (rs ns) key seq) := by
      unfold takeM
      by_cases hc : 0 ≤ most ∧ most < ((rs ns).drop (place (rs ns) key seq)).length
      · have := hm hc.1; omega
      · rw [if_neg hc]
    have HF := Lib.hid hfin
    clear hfin hm
    gi_wp2
    refine ⟨by simp, .inl ⟨_, _, rfl, run_takeDeferred hK, ?_⟩⟩
    have hzb := hb1.size
    rw [HF.out]
    exact ⟨_, results_tmp rfl _ _ _, v, rfl, ownsRow_putObj hrow _ hK rfl, hB.trans (belowK_b (w := w) (Nat.le_refl _) _ D _ _ (by omega) hK rfl rfl)⟩
  case stop =>
    rintro D c pre W hD ⟨hp1, hp2⟩ ⟨p0, x, g1, g2, g3, ⟨v, hv, hrow, _⟩, g5⟩ hK
    have hc := hv.cell
    have hfin : takeM most ((rs ns).drop (place (rs ns) key seq)) = p0 := by
      obtain ⟨t, ht⟩ := hp2
      rw [← ht, g1]
      unfold takeM
      rw [if_pos ⟨by omega, by simp; omega⟩, show most.toNat = p0.length by omega]
      simp
    have HF := Lib.hid hfin
    subst g2
    clear hfin g1 g3 hp1 hp2
    gi_wp2
    refine ⟨by simp, .inl ⟨_, _, rfl, run_takeDeferred hK, ?_⟩⟩
    have hzb := hb1.size
    rw [HF.out]
    exact ⟨_, results_tmp rfl _ _ _, v, rfl, ownsRow_putObj hrow _ hK rfl, g5.trans (belowK_b (w := w) (Nat.le_refl _) _ D _ _ (by omega) hK rfl rfl)⟩
end Go.Proofs.Ythhdameaihclmaa
