/- Range of package mem, from the empty key to no end: all rows, in memory of their own. Condition: at most 2^32 rows. -/
import Derived.Test.YthhdameaihclmaaMh
import Derived.Test.YthhdameaihclmaaCo
namespace Go.Proofs.Ythhdameaihclmaa
open Go.RowKit Go.Shelf Sk
attribute [local go_sem] Oper.semAt_some

def RgA (w : World) (B : Nat) (x : Rw) (a : Act) (W : World) : Prop :=
  ∃ Bx, w.heap.size + 1 < Bx ∧ W.heap[Bx]? = some (.cells (rowC x) 27 (0, 0)) ∧ a = { tmps := #[Value.pointer (some { block := B, off := 0 }), Value.string { data := #[] }, Value.string { data := #[] },
          undef, undef, Value.pointer (some { block := w.heap.size, off := 0 }), Value.slice none 0 0,
          Value.pointer (some { block := w.heap.size + 1, off := 0 }), .pointer (some ⟨Bx, 0, none⟩),
          Value.pointer (some { block := B, off := 0 }), Value.bool false, undef,
          Value.pointer (some { block := B, off := 0 }), Value.pointer (some { block := B, off := 0 }),
          Value.pointer (some { block := B, off := 0 }), Value.pointer (some { block := B, off := 0 }),
          Value.string { data := #[] },
          Value.func (Fn.func 46) #[]
            #[Value.pointer (some { block := w.heap.size + 1 + 1, off := 0 }),
              Value.pointer (some { block := w.heap.size + 1 + 1 + 1, off := 0 }),
              Value.pointer (some { block := w.heap.size + 1 + 1 + 1 + 1, off := 0 })],
          .agg #[.string x.key, .int .u64 x.seq, .int .i64 x.kind, .string x.val], undef, undef, undef, undef, undef, undef, undef, undef, undef, undef, undef, undef, undef], defers := [] }

set_option maxRecDepth 100000 in
set_option maxHeartbeats 2000000 in
theorem range_any (w : World) (B : Nat) (room least greatest : Value) (ns : List Nd) (h : SL w B 85 #[.bool true, room, least, greatest] ns) (hlen : ns.length ≤ 4294967296) :
    Calls Try.prog 41 #[.pointer (some ⟨B, 0, none⟩), .string ⟨#[]⟩, .string ⟨#[]⟩] w (OwnRows w (rs ns)) := by
  obtain ⟨i0, hi, hz0, hz1, hz2⟩ := info_parts Try.info27
  refine (callsIn_wide (n := 5)).1 ?_
  have hnil := nil46
  have H5 := Lib.hid (heap_alloc2_old w (.cells #[.string ⟨#[]⟩] 9) (.cells #[.slice none 0 0] 34))
  have H7 := Lib.hid (heap_alloc2_new w (.cells #[.string ⟨#[]⟩] 9) (.cells #[.slice none 0 0] 34))
  have HB0 := Lib.hid (((Below.refl w.heap.size w).alloc (Nat.le_refl _) (.cells #[.string ⟨#[]⟩] 9)).alloc (by simp) (.cells #[.slice none 0 0] 34))
  have HN := Lib.hid (fun W (hW : Below w.heap.size w W) => none_any W B room least greatest ns (h.below hW))
  refine callsIn_of_wp_marks Try.func41 rfl trivial ?_ rfl
  simp only [Try.ntmps41, List.size_toArray, List.length_cons, List.length_nil, Nat.reduceAdd, Nat.reduceSub, Array.replicate_succ, Array.replicate_zero, List.push_toArray, List.append_toArray, List.nil_append, List.cons_append]
  gi_wp2_with (first
    | (refine ⟨trivial, ?_⟩; gi_at_call 38; refine (callsIn_wide.2 (HN.out _ HB0.out)).mono ?_; rintro e1 w0 ⟨rfl, rfl⟩)
    | (refine ⟨trivial, ?_⟩; gi_at_call 33; refine (callsIn_wide.2 (from_any _ _ _ _)).mono ?_; rintro e1 w1 ⟨rfl, hB1, hz1', c1, c2, c3⟩))
  clear hnil
  simp only [World.size_alloc] at hz1' c1 c2 c3
  have hbox : Boxed w1 (w.heap.size + 1) 34 (.slice none 0 0) := heap_on hB1 H7.out
  have h5 := heap_on hB1 H5.out
  have hb1 : Below w.heap.size w w1 := below_step HB0.out hB1 (Nat.le_refl _)
  have hblt : ∀ b, blks B ns b → b < w.heap.size := fun b hb => h.blk_lt hb
  have hpz : place (rs ns) ⟨#[]⟩ 18446744073709551615 = 0 := place_zero _ _ _ empty_list (fun r hr => by
    obtain ⟨n, hn, rfl⟩ := List.mem_map.1 hr
    exact (h.wf n hn).2)
  have hseq := from1_stops (5 - 1) (by omega) w1 B 85 _ ns ⟨#[]⟩ 18446744073709551615 _ _ _ w.heap.size (h.below hb1) hlen c1 c2 c3 hblt
  rw [hpz] at hseq
  refine wpIn_rangeFunc_ownH rfl (by omega) (gf := 46) (lb := #[.pointer (some ⟨w.heap.size + 1 + 1, 0, none⟩), .pointer (some ⟨w.heap.size + 1 + 1 + 1, 0, none⟩), .pointer (some ⟨w.heap.size + 1 + 1 + 1 + 1, 0, none⟩)]) rfl trivial (enters_of Try.func46 (by kernel_rfl) rfl)
    hseq belowK_t (belowK_b (by omega)) (Below.refl _ _) (fun _ => rfl)
    (fun pre W => W.heap[w.heap.size]? = some (.cells #[.string ⟨#[]⟩] 9 (0, 0)) ∧ OutI w.heap.size (w.heap.size + 1) pre W ∧ Below w.heap.size w W) (fun _ _ _ => False)
    ((Own.from (own_cells _ (fun _ => #[.string ⟨#[]⟩]) 9 (0, 0)) _).and ((Own.from (outI_own _ _) _).and (ownFrom_below (Nat.le_refl _) (by omega)))) (fun _ _ _ _ _ hs _ _ => hs)
    ⟨h5, ⟨_, hbox, World.ownsRow_nil _ _ _ _, trivial⟩, hb1⟩ (RgA w B)
    (fun x a' => fun s X Y row hs hg hr => by
      obtain ⟨Bx, g0, g1, g2⟩ := hs
      exact ⟨Bx, g0, Own.from (own_cells _ (fun (_ : Unit) => rowC x) 27 (0, 0)) _ s X Y row g1 hg hr, g2⟩)
    ?assign ?body ?done ?stop
  case assign =>
    rintro l pre x W K ⟨g0, g1, g3⟩ hK
    dsimp only [rowE]
    have hlt := g1.choose_spec.1.lt
    gi_wp2
    have hW : Below W.heap.size W (W.alloc (.cells (rowC x) 27)) := (Below.refl _ _).alloc (Nat.le_refl _) _
    exact hK _ _ ((KeepsOthers.alloc _ _).from _) (hW.mono (by omega)) ⟨heap_on hW g0, g1.alloc _, below_step g3 hW (Nat.le_refl _)⟩ ⟨W.heap.size, hlt, heap_alloc_new _ _, rfl⟩
  case body =>
    rintro l pre x a' W hl ⟨rr, hr⟩ ⟨g0, ⟨v, hv, hrow, _⟩, hB⟩ ⟨Bx, hBx, bX, rfl⟩ hlt
    have e0 : W.cell? ⟨Bx, 0, none⟩ = some (.string x.key) := cell_of bX 0
    have e1 : W.cell? ⟨Bx, 1, none⟩ = some (.int .u64 x.seq) := cell_of bX 1
    have e2 : W.cell? ⟨Bx, 2, none⟩ = some (.int .i64 x.kind) := cell_of bX 2
    have e3 : W.cell? ⟨Bx, 3, none⟩ = some (.string x.val) := cell_of bX 3
    have e5 : W.cell? ⟨w.heap.size, 0, none⟩ = some (.string ⟨#[]⟩) := cell_of g0 0
    have hc1 := hv.cell
    have G0 := Lib.hid g0
    clear bX hr g0
    gi_wp2_with (gi_at_builtin; refine wpListIn_append_own _ rfl _ _ 34 rfl w.heap.size 27 i0 (.agg zeroRow) 4 48 Try.underlying34 hi hz0 hz1 hz2 rfl (by decide) v pre.length (flat pre) rfl (hrow.alloc _) ⟨W.heap.size, 0, none⟩ 1 1 (rowL x) rfl rfl (news_row W x) ?_ ?_ ?_ ?_ ?_
                 · intro u hu; simp only [rowL, List.mem_cons, List.not_mem_nil, or_false] at hu; rcases hu with rfl | rfl | rfl | rfl <;> rfl
                 · simp only [maxLen]; omega
                 · omega
                 · have := hv.lt; simp; omega
                 intro v' w2 hown' hgrow _
                 obtain ⟨g', cap', rfl⟩ := ownsRow_succ hown'
                 obtain ⟨hv1, hv2, hr2, hk2, hb2⟩ := hv.appended (by decide) hrow (Nat.le_of_lt (Nat.lt_of_succ_lt hv.lt)) (Nat.le_succ w.heap.size) hown' hgrow
                 have hc1 := hv1.cell
                 have hf1 := hv1.frozen)
    have s1 := (hgrow.block w.heap.size (by have := (Array.getElem?_eq_some_iff.1 G0.out).1; rw [World.size_alloc]; omega) (fun e => by
      rcases hrow.2 with ⟨hv0, _⟩ | ⟨g2, cap, cur, hv0, _, hh, _⟩
      · rw [hv0] at e; simp [Value.ownBlock] at e
      · rw [hv0] at e
        have e2 : g2 = w.heap.size := by simpa [Value.ownBlock] using e.symm
        subst e2
        rw [G0.out] at hh
        injection hh with hh
        injection hh with _ hh
        exact absurd hh (by decide))).trans (heap_on ((Below.refl _ _).alloc (Nat.le_refl _) _) G0.out)
    have s2 := ((Off.of_below (S := fun b => b = w.heap.size + 1) (Below.refl w2.heap.size w2)).setCell (p := ⟨w.heap.size + 1, 0, none⟩) (.inl rfl) (Value.slice (some ⟨g', 0, none⟩) (pre.length + 1) cap')).block w.heap.size (Array.getElem?_eq_some_iff.1 s1).1 (by omega)
    exact ⟨hk2.from _, hb2, ⟨s2.trans s1, ⟨_, hv2, by rw [List.length_append, flat_snoc]; exact hr2, trivial⟩, hB.trans hb2⟩⟩
  case done =>
    rintro D ys W hD rfl ⟨g0, ⟨v, hv, hrow, _⟩, hB⟩ hK
    have hc := hv.cell
    gi_wp2
    refine ⟨by simp, .inl ⟨_, _, rfl, run_takeDeferred hK, ?_⟩⟩
    have hzb := hb1.size
    exact ⟨_, results_tmp rfl _ _ _, v, rfl, ownsRow_putObj hrow _ hK rfl, hB.trans (belowK_b (w := w) (Nat.le_refl _) _ D _ _ (by omega) hK rfl rfl)⟩
  case stop =>
    rintro D c pre W _ _ h _
    exact h.elim
end Go.Proofs.Ythhdameaihclmaa
