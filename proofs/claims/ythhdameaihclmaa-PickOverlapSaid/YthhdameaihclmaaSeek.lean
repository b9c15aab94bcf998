/- From and Seek of the skip list: Seek tells the first row that is not ahead of a place. Condition: at most 2^32 rows. -/
import Derived.Test.YthhdameaihclmaaIt
namespace Go.Proofs.Ythhdameaihclmaa
open Go.RowKit Go.Shelf Sk
attribute [local go_sem] Oper.semAt_some

set_option maxHeartbeats 400000 in
theorem from_any (p : Option Addr) (key : ByteArray) (seq : Int) (w : World) :
    Calls Try.prog 33 #[.pointer p, .string key, .int .u64 seq] w fun e w' =>
      e = .returned (.func (.func 46) #[] #[.pointer (some ⟨w.heap.size, 0, none⟩), .pointer (some ⟨w.heap.size + 1, 0, none⟩), .pointer (some ⟨w.heap.size + 1 + 1, 0, none⟩)]) ∧
      Below w.heap.size w w' ∧ w.heap.size + 3 ≤ w'.heap.size ∧ w'.cell? ⟨w.heap.size, 0, none⟩ = some (.pointer p) ∧ w'.cell? ⟨w.heap.size + 1, 0, none⟩ = some (.string key) ∧ w'.cell? ⟨w.heap.size + 1 + 1, 0, none⟩ = some (.int .u64 seq) := by
  go_enter Try.func33, Try.ntmps33
  go_wp2
  go_ret
  refine ⟨rfl, (((Below.refl _ _).alloc (Nat.le_refl _) _).alloc (by simp) _).alloc (by simp; omega) _, by simp, ?_, ?_, ?_⟩
  · simp [go_sem]
  · simp [go_sem]
  · simp [go_sem]

/-- A block of cells lies as it lay through a step of the iterator's, or of the loop's own book-keeping. -/
theorem own_cells {β : Type} (b : Nat) (c : β → Array Value) (t : TypeId) (fr : Nat × Nat) : Own (fun s W => W.heap[b]? = some (.cells (c s) t fr)) := fun s X Y row hs hg hrow =>
  (hg.block b (Array.getElem?_eq_some_iff.1 hs).1 (fun e' => by obtain ⟨o, ho, hc⟩ := hrow b e'.symm; rw [hs] at ho; cases ho; cases hc)).trans hs

/-- Only block b may have turned. -/
structure OverAt (b : Nat) (w w' : World) : Prop where
  os : w'.os = w.os
  tape : w'.tape = w.tape
  output : w'.output = w.output
  size : w'.heap.size = w.heap.size
  block : ∀ k : Nat, k ≠ b → w'.heap[k]? = w.heap[k]?
theorem OverAt.below {b n : Nat} {a w w' : World} (h : OverAt b w w') (hn : n ≤ b) (hb : Below n a w) : Below n a w' :=
  hb.trans ⟨h.os, h.tape, h.output, Nat.le_of_eq h.size.symm, fun k hk => h.block k (by omega)⟩
theorem OverAt.keeps {b B : Nat} {w w' : World} (h : OverAt b w w') {c : Array Value} {t : TypeId} {f : Nat × Nat} (hb : w.heap[b]? = some (.cells c t f)) : KeepsFrom B w w' :=
  ⟨Nat.le_of_eq h.size.symm, fun k o _ hk ho => (h.block k (fun e => by subst e; rw [hb] at hk; cases hk; cases ho)).trans hk⟩
theorem overAt_setCells {w : World} {b t : Nat} {cs cells : Array Value} (hg : w.heap[b]? = some (.cells cs t (0, 0))) (hl : cs.size = cells.size) :
    OverAt b w (w.setCells b 0 cells.toList) ∧ (w.setCells b 0 cells.toList).heap[b]? = some (.cells cells t (0, 0)) := by
  obtain ⟨h1, h2, h3, _, h5⟩ := setCells_frame w b cells.toList 0
  refine ⟨⟨h1, h2, h3, h5, fun k hk => setCells_heap_other _ _ _ _ _ hk⟩, ?_⟩
  have := setCells_heap w b t cells.toList [] cs.toList (by simpa using hg) (by simpa using hl)
  simpa using this
theorem wpList_store_over {P : Program} {ops : Array Oper} {rest : List Oper} {op : Oper} {a : Act} {w : World} {Q : Exit → Act → World → Prop} (hgd : op.guard = none) (ty : TypeId) (x y : Operand) (ho : op.op = .store ty x y)
    (b t : Nat) (cs cells : Array Value) (hg : w.heap[b]? = some (.cells cs t (0, 0))) (hl : cs.size = cells.size) (hx : a.eval x = .pointer (some ⟨b, 0, none⟩)) (hy : a.eval y = .agg cells)
    (hi : (P.info? ty).map (·.size) = some cells.size) (h1 : cells.all (·.oneCell') = true)
    (h : ∀ W, OverAt b w W → W.heap[b]? = some (.cells cells t (0, 0)) → wpList P ops Q rest (a.put op.dst undef) W) : wpList P ops Q (op :: rest) a w :=
  wpList_store_mid hgd ty x y ho b 0 cells hx hy (by have := there_row hg; rwa [hl] at this) hi h1 (h _ (overAt_setCells hg hl).1 (overAt_setCells hg hl).2)
theorem wpListIn_store_over {F : Fence} {n : Nat} {P : Program} {ops : Array Oper} {rest : List Oper} {op : Oper} {a : Act} {w : World} {Q : Exit → Act → World → Prop} (hgd : op.guard = none) (ty : TypeId) (x y : Operand) (ho : op.op = .store ty x y)
    (b t : Nat) (cs cells : Array Value) (hg : w.heap[b]? = some (.cells cs t (0, 0))) (hl : cs.size = cells.size) (hx : a.eval x = .pointer (some ⟨b, 0, none⟩)) (hy : a.eval y = .agg cells)
    (hi : (P.info? ty).map (·.size) = some cells.size) (h1 : cells.all (·.oneCell') = true)
    (h : ∀ W, OverAt b w W → W.heap[b]? = some (.cells cells t (0, 0)) → wpListIn F n P ops Q rest (a.put op.dst undef) W) : wpListIn F n P ops Q (op :: rest) a w := by
  refine wpListIn_plain hgd fun K hK' => ?_
  have ht : w.there b 0 cells.size := by have := there_row hg; rwa [hl] at this
  have hrun := run_storeVar_mid w b 0 ty cells ht hi h1
  unfold Oper.wpIn
  refine ⟨?_, ?_⟩
  · simp [Oper.about, ho]
  · rw [Oper.semAt_plain F _ _ (by rw [ho]; intro c hc'; cases hc')]
    simp only [execOp, ho, hx, hy, Instr.storeAt, Instr.sureAddr, Sem.run_bind, Sem.run_pure, Result.andThen_ok, hrun]
    exact hK' _ _ (h _ (overAt_setCells hg hl).1 (overAt_setCells hg hl).2)
theorem rowC_one (r : Rw) : (rowC r).all (·.oneCell') = true := by simp [rowC, Value.oneCell']
theorem Try.size27 : (Try.prog.info? 27).map (·.size) = some 4 := by kernel_rfl

def zeroRow : Array Value := #[.string ⟨#[]⟩, .int .u64 0, .int .i64 0, .string ⟨#[]⟩]
theorem zeroRow_one : zeroRow.all (·.oneCell') = true := by simp [zeroRow, Value.oneCell']
def SkI (w : World) (pre : List Rw) (W : World) : Prop :=
  W.heap[w.heap.size]? = some (.cells zeroRow 27 (0, 0)) ∧ W.heap[w.heap.size + 1]? = some (.cells #[.bool false] 4 (0, 0)) ∧ Below w.heap.size w W ∧ pre = []
def SkX (w : World) (c : Code) (pre : List Rw) (W : World) : Prop :=
  ∃ r, W.heap[w.heap.size]? = some (.cells (rowC r) 27 (0, 0)) ∧ W.heap[w.heap.size + 1]? = some (.cells #[.bool true] 4 (0, 0)) ∧ Below w.heap.size w W ∧ pre = [r] ∧ c = .ret
def SkA (w : World) (B : Nat) (key : ByteArray) (seq : Int) (x : Rw) (a : Act) (W : World) : Prop :=
  ∃ Bx, w.heap.size + 2 ≤ Bx ∧ W.heap[Bx]? = some (.cells (rowC x) 27 (0, 0)) ∧ a = { tmps := #[Value.pointer (some { block := B, off := 0 }), Value.string key, Value.int IntKind.u64 seq, undef, undef,
          undef, Value.pointer (some { block := w.heap.size, off := 0 }),
          Value.pointer (some { block := w.heap.size + 1, off := 0 }), .pointer (some ⟨Bx, 0, none⟩),
          Value.pointer (some { block := B, off := 0 }), Value.string key, Value.int IntKind.u64 seq,
          Value.func (Fn.func 46) #[]
            #[Value.pointer (some { block := w.heap.size + 1 + 1, off := 0 }),
              Value.pointer (some { block := w.heap.size + 1 + 1 + 1, off := 0 }),
              Value.pointer (some { block := w.heap.size + 1 + 1 + 1 + 1, off := 0 })],
          .agg #[.string x.key, .int .u64 x.seq, .int .i64 x.kind, .string x.val], undef, undef], defers := [] }

theorem results_row_bool {fn : Func} {p q : Tmp} (h : fn.results = #[.cell p 27, .cell q 4]) (tmps : Array Value) (w : World) (g g' : Nat) (T T' : TypeId) (cs : Array Value) (v : Value) (fr fr' : Nat × Nat)
    (hp : tmps.getD p undef = .pointer (some ⟨g, 0, none⟩)) (hq : tmps.getD q undef = .pointer (some ⟨g', 0, none⟩)) (hg : w.heap[g]? = some (.cells cs T fr)) (hg' : w.heap[g']? = some (.cells #[v] T' fr')) (hi : cs.size = 4) :
    (results fn tmps).run Try.prog w = .ok (.tuple #[.agg cs, v]) w := by
  have hp' : tmps[p]?.getD undef = .pointer (some ⟨g, 0, none⟩) := by simpa using hp
  have hq' : tmps[q]?.getD undef = .pointer (some ⟨g', 0, none⟩) := by simpa using hq
  have hc : w.cell? ⟨g', 0, none⟩ = some v := by simp [World.cell?, hg']
  simp [results, h, hp', hq', asAddr, run_loadVar_row w g T 27 cs fr _ hg Try.underlying27 rfl (by rw [Try.size27, hi])]
  simp [go_sem, hc]

def seekV : Option Rw → Value
  | some r => .tuple #[.agg (rowC r), .bool true]
  | none => .tuple #[.agg zeroRow, .bool false]
set_option maxRecDepth 100000 in
set_option maxHeartbeats 2000000 in
theorem seek_any (w : World) (B T : Nat) (rest : Array Value) (ns : List Nd) (key : ByteArray) (seq : Int) (h : SL w B T rest ns) (hlen : ns.length ≤ 4294967296) :
    Calls Try.prog 11 #[.pointer (some ⟨B, 0, none⟩), .string key, .int .u64 seq] w fun e w' =>
      e = .returned (seekV (rs ns)[place (rs ns) key seq]?) ∧ Below w.heap.size w w' := by
  refine (callsIn_wide (n := 5)).1 ?_
  refine callsIn_of_wp_marks Try.func11 rfl trivial ?_ rfl
  simp only [Try.ntmps11, List.size_toArray, List.length_cons, List.length_nil, Nat.reduceAdd, Nat.reduceSub, Array.replicate_succ, Array.replicate_zero, List.push_toArray, List.append_toArray, List.nil_append, List.cons_append]
  have H6 := Lib.hid (heap_alloc2_old w (.cells zeroRow 27) (.cells #[.bool false] 4))
  have H7 := Lib.hid (heap_alloc2_new w (.cells zeroRow 27) (.cells #[.bool false] 4))
  have HB0 := Lib.hid (((Below.refl w.heap.size w).alloc (Nat.le_refl _) (.cells zeroRow 27)).alloc (by simp) (.cells #[.bool false] 4))
  gi_wp2_with (refine ⟨trivial, ?_⟩; gi_at_call 33; refine (callsIn_wide.2 (from_any _ _ _ _)).mono ?_; rintro e1 w1 ⟨rfl, hB1, hz1, c1, c2, c3⟩)
  simp only [World.size_alloc] at hz1 c1 c2 c3
  have h6 := heap_on hB1 H6.out
  have h7 := heap_on hB1 H7.out
  have hb1 : Below w.heap.size w w1 := below_step HB0.out hB1 (Nat.le_refl _)
  have hblt : ∀ b, blks B ns b → b < w.heap.size := fun b hb => h.blk_lt hb
  refine wpIn_rangeFunc_ownH rfl (by omega) (gf := 46) (lb := #[.pointer (some ⟨w.heap.size + 1 + 1, 0, none⟩), .pointer (some ⟨w.heap.size + 1 + 1 + 1, 0, none⟩), .pointer (some ⟨w.heap.size + 1 + 1 + 1 + 1, 0, none⟩)]) rfl trivial (enters_of Try.func46 (by kernel_rfl) rfl)
    (from1_stops (5 - 1) (by omega) w1 B T rest ns key seq _ _ _ w.heap.size (h.below hb1) hlen c1 c2 c3 hblt) belowK_t (belowK_b (by omega)) (Below.refl _ _) (fun _ => rfl)
    (SkI w) (SkX w)
    ((Own.from (own_cells _ (fun _ => zeroRow) 27 (0, 0)) _).and ((Own.from (own_cells _ (fun _ => #[.bool false]) 4 (0, 0)) _).and ((ownFrom_below (Nat.le_refl _) (by omega)).and (ownFrom_pure _ _))))
    (fun c => fun s X Y row hs hg hr => by
      obtain ⟨r, g1, g2, g3, g4, g5⟩ := hs
      exact ⟨r, Own.from (own_cells _ (fun (_ : List Rw) => rowC r) 27 (0, 0)) _ s X Y row g1 hg hr, Own.from (own_cells _ (fun (_ : List Rw) => #[.bool true]) 4 (0, 0)) _ s X Y row g2 hg hr,
        ownFrom_below (Nat.le_refl _) (by omega) s X Y row g3 hg hr, g4, g5⟩)
    ⟨h6, h7, hb1, rfl⟩ (SkA w B key seq)
    (fun x a' => fun s X Y row hs hg hr => by
      obtain ⟨Bx, g0, g1, g2⟩ := hs
      exact ⟨Bx, g0, Own.from (own_cells _ (fun (_ : Unit) => rowC x) 27 (0, 0)) _ s X Y row g1 hg hr, g2⟩)
    ?assign ?body ?done ?stop
  case assign =>
    rintro l pre x W K ⟨g1, g2, g3, g4⟩ hK
    dsimp only [rowE]
    have hz := hb1.size
    have hz3 := g3.size
    gi_wp2
    have hW : Below W.heap.size W (W.alloc (.cells (rowC x) 27)) := (Below.refl _ _).alloc (Nat.le_refl _) _
    exact hK _ _ ((KeepsOthers.alloc _ _).from _) (hW.mono hz3) ⟨heap_on hW g1, heap_on hW g2, below_step g3 hW (Nat.le_refl _), g4⟩ ⟨W.heap.size, by have := (Array.getElem?_eq_some_iff.1 g2).1; omega, heap_alloc_new _ _, rfl⟩
  case body =>
    rintro l pre x a' W hl ⟨rr, hr⟩ ⟨g1, g2, g3, rfl⟩ ⟨Bx, hBx, bX, rfl⟩ hlt
    have e0 : W.cell? ⟨Bx, 0, none⟩ = some (.string x.key) := cell_of bX 0
    have e1 : W.cell? ⟨Bx, 1, none⟩ = some (.int .u64 x.seq) := cell_of bX 1
    have e2 : W.cell? ⟨Bx, 2, none⟩ = some (.int .i64 x.kind) := cell_of bX 2
    have e3 : W.cell? ⟨Bx, 3, none⟩ = some (.string x.val) := cell_of bX 3
    have G1 := Lib.hid g1
    have G2 := Lib.hid g2
    have BX := Lib.hid bX
    clear g1 g2 bX hr
    gi_wp2_with (refine wpListIn_store_over rfl 27 _ _ rfl w.heap.size 27 zeroRow (rowC x) G1.out rfl rfl rfl Try.size27 (rowC_one _) ?_; intro W2 hO hG
                 have f7 := (hO.block (w.heap.size + 1) (by omega)).trans G2.out
                 have c7 : W2.cell? ⟨w.heap.size + 1, 0, none⟩ = some (.bool false) := cell_of f7 0
                 have z7 := free_of f7 0
                 have HG := Lib.hid hG
                 have F7 := Lib.hid f7
                 clear hG f7)
    have hs7 := heap_setCell_same W2 (w.heap.size + 1) 0 _ 4 (.bool true) F7.out
    have hO7 : (W2.setCell ⟨w.heap.size + 1, 0, none⟩ (.bool true)).heap[w.heap.size]? = some (.cells (rowC x) 27 (0, 0)) := (Below.heap_setCell W2 _ _ w.heap.size (by simp)).trans HG.out
    exact ⟨(hO.keeps G1.out).trans ((KeepsOthers.setCell _ _ _).from _), x, hO7, hs7, (hO.below (Nat.le_refl _) g3).setCell (p := ⟨w.heap.size + 1, 0, none⟩) (by simp) _, rfl, rfl⟩
  case done =>
    rintro D ys W hD rfl ⟨g1, g2, g3, g4⟩ hK
    have hnone : (rs ns)[place (rs ns) key seq]? = none := by
      have := List.drop_eq_nil_iff.1 g4
      exact List.getElem?_eq_none this
    have HNN := Lib.hid hnone
    have G1 := Lib.hid g1
    have G2 := Lib.hid g2
    have GK := Lib.hid hK
    clear g1 g2 hK hnone g4
    gi_wp2_with (refine wpListIn_store_over rfl 27 _ _ rfl w.heap.size 27 zeroRow zeroRow G1.out rfl rfl rfl Try.size27 zeroRow_one ?_; intro W2 hO hG
                 have f7 := (hO.block (w.heap.size + 1) (by omega)).trans G2.out
                 have c7 : W2.cell? ⟨w.heap.size + 1, 0, none⟩ = some (.bool false) := cell_of f7 0
                 have z7 := free_of f7 0
                 have HG := Lib.hid hG
                 have F7 := Lib.hid f7
                 clear hG f7)
    have hs7 := heap_setCell_same W2 (w.heap.size + 1) 0 _ 4 (.bool false) F7.out
    have hO7 : (W2.setCell ⟨w.heap.size + 1, 0, none⟩ (.bool false)).heap[w.heap.size]? = some (.cells zeroRow 27 (0, 0)) := (Below.heap_setCell W2 _ _ w.heap.size (by simp)).trans HG.out
    have hzb := hb1.size
    have hKD : (W2.setCell ⟨w.heap.size + 1, 0, none⟩ (.bool false)).heap[D]? = some (.deferred (some [])) := (Below.heap_setCell W2 _ _ D (by show D ≠ w.heap.size + 1; omega)).trans ((hO.block D (by omega)).trans GK.out)
    refine ⟨by simp, .inl ⟨_, _, rfl, run_takeDeferred hKD, ?_⟩⟩
    have hB2 : Below w.heap.size w (W2.setCell ⟨w.heap.size + 1, 0, none⟩ (.bool false)) := (hO.below (Nat.le_refl _) g3).setCell (p := ⟨w.heap.size + 1, 0, none⟩) (by simp) _
    exact ⟨_, results_row_bool rfl _ _ w.heap.size (w.heap.size + 1) 27 4 zeroRow (.bool false) (0, 0) (0, 0) rfl rfl ((World.putObj_heap_other (by omega)).trans hO7) ((World.putObj_heap_other (by omega)).trans hs7) rfl, by rw [HNN.out]; rfl,
      hB2.trans (belowK_b (w := w) (Nat.le_refl _) _ D _ _ (by omega) hKD rfl rfl)⟩
  case stop =>
    rintro D c pre W hD ⟨hp1, hp2⟩ ⟨r, g1, g2, g3, rfl, rfl⟩ hK
    have hsome : (rs ns)[place (rs ns) key seq]? = some r := by
      obtain ⟨t, ht⟩ := hp2
      have h0 : ((rs ns).drop (place (rs ns) key seq))[0]? = some r := by rw [← ht]; rfl
      rwa [List.getElem?_drop, Nat.add_zero] at h0
    have HSS := Lib.hid hsome
    clear hsome hp1 hp2
    gi_wp2
    refine ⟨by simp, .inl ⟨_, _, rfl, run_takeDeferred hK, ?_⟩⟩
    have hzb := hb1.size
    exact ⟨_, results_row_bool rfl _ _ w.heap.size (w.heap.size + 1) 27 4 (rowC r) (.bool true) (0, 0) (0, 0) rfl rfl ((World.putObj_heap_other (by omega)).trans g1) ((World.putObj_heap_other (by omega)).trans g2) rfl, by rw [HSS.out]; rfl,
      g3.trans (belowK_b (w := w) (Nat.le_refl _) _ D _ _ (by omega) hK rfl rfl)⟩

end Go.Proofs.Ythhdameaihclmaa
