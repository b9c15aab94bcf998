/- The iterator that From hands back yields the rows from a place on, to every loop body that keeps what lay before. Condition: at most 2^32 rows. -/
import Derived.Test.YthhdameaihclmaaPut
import Derived.RangeFuncNested
import Derived.RangeFuncBound
import Derived.RangeFuncCalls
import Derived.RangeFuncLeaves
import Derived.Shelf.Abstract
import Derived.Shelf.RegionOpen
import Derived.OwnWalkIn
import Derived.TacticsInMore
import Derived.LoopNIn
import Derived.LoopIn
namespace Go.Proofs.Ythhdameaihclmaa
open Go.RowKit Go.Shelf Sk
attribute [local go_sem] Oper.semAt_some

theorem wpListIn_store_new {F : Fence} {n : Nat} {P : Program} {ops : Array Oper} {rest : List Oper} {op : Oper} {a : Act} {w : World} {Q : Exit → Act → World → Prop} (hgd : op.guard = none) (ty : TypeId) (x y : Operand) (ho : op.op = .store ty x y)
    (t : Nat) (cs cells : Array Value) (hl : cs.size = cells.size) (hx : a.eval x = .pointer (some ⟨w.heap.size, 0, none⟩)) (hy : a.eval y = .agg cells)
    (hi : (P.info? ty).map (·.size) = some cells.size) (h1 : cells.all (·.oneCell') = true)
    (h : ∀ W, Below w.heap.size w W → W.heap[w.heap.size]? = some (.cells cells t (0, 0)) → wpListIn F n P ops Q rest (a.put op.dst undef) W) : wpListIn F n P ops Q (op :: rest) a (w.alloc (.cells cs t)) := by
  refine wpListIn_plain hgd fun K hK' => ?_
  have ht : (w.alloc (.cells cs t)).there w.heap.size 0 cells.size := by have := there_row (heap_alloc_new w (.cells cs t)); rwa [hl] at this
  have hrun := run_storeVar_mid (w.alloc (.cells cs t)) w.heap.size 0 ty cells ht hi h1
  rw [alloc_setCells _ _ _ _ hl] at hrun
  unfold Oper.wpIn
  refine ⟨?_, ?_⟩
  · simp [Oper.about, ho]
  · rw [Oper.semAt_plain F _ _ (by rw [ho]; intro c hc'; cases hc')]
    simp only [execOp, ho, hx, hy, Instr.storeAt, Instr.sureAddr, Sem.run_bind, Sem.run_pure, Result.andThen_ok, hrun]
    exact hK' _ _ (h _ ((Below.refl _ _).alloc (Nat.le_refl _) _) (heap_alloc_new w _))

theorem abides_below {β : Type} {B : Nat} {J : β → World → Prop} (h : AbidesFrom B J) {s : β} {W W' : World} (hs : J s W) (hb : Below W.heap.size W W') : J s W' :=
  h s W W' none hs ⟨hb.os, hb.tape, hb.output, hb.size, fun i hi _ => hb.block i hi⟩ (fun r e => by cases e)

/-! ## the iterator -/
def rowE (r : Rw) : Array Value := #[.agg #[.string r.key, .int .u64 r.seq, .int .i64 r.kind, .string r.val]]
def ptrAt (ns : List Nd) (q : Nat) : Option Addr := (ns[q]?).map fun n => ⟨n.blk, 0, none⟩
def posV (ns : List Nd) : Value → Nat
  | .pointer (some a) => (ns.map Nd.blk).idxOf a.block
  | _ => ns.length
theorem idx_nodup {l : List Nat} (h : l.Nodup) {q b : Nat} (hq : l[q]? = some b) : l.idxOf b = q := by
  induction l generalizing q with
  | nil => simp at hq
  | cons a l ih =>
    rw [List.nodup_cons] at h
    cases q with
    | zero => simp at hq; subst hq; simp
    | succ q =>
      have hq' : l[q]? = some b := by simpa using hq
      have hne : a ≠ b := fun e => h.1 (e ▸ List.mem_of_getElem? hq')
      rw [List.idxOf_cons, beq_false_of_ne hne, cond_false, ih h.2 hq']
theorem posV_at {ns : List Nd} (h : (ns.map Nd.blk).Nodup) {q : Nat} (hq : q ≤ ns.length) : posV ns (.pointer (ptrAt ns q)) = q := by
  unfold ptrAt
  cases hn : ns[q]? with
  | none =>
    have : ns.length ≤ q := by simpa using hn
    simp only [Option.map_none, posV]; omega
  | some n =>
    simp only [Option.map_some, posV]
    exact idx_nodup h (by simp [hn])
theorem take_row {ns : List Nd} {e q : Nat} {m : Nd} (he : e ≤ q) (hq : ns[q]? = some m) : ((rs ns).drop e).take (q + 1 - e) = ((rs ns).drop e).take (q - e) ++ [m.row] := by
  have hql : q < ns.length := (List.getElem?_eq_some_iff.1 hq).1
  rw [show q + 1 - e = (q - e) + 1 by omega, List.take_succ_eq_append_getElem (by simp [rs]; omega)]
  have h2 : ((rs ns).drop e)[q - e]'(by simp [rs]; omega) = m.row := by
    apply Option.some.inj
    rw [← List.getElem?_eq_getElem, List.getElem?_drop, show e + (q - e) = q by omega]
    simp [rs, hq]
  rw [h2]
def ItI (B T : Nat) (rest : Array Value) (ns : List Nd) (e : Nat) (J : List Rw → World → Prop) (v : Value) (wr : World) : Prop :=
  ∃ q, e ≤ q ∧ q ≤ ns.length ∧ v = .pointer (ptrAt ns q) ∧ J (((rs ns).drop e).take (q - e)) wr ∧ SL wr B T rest ns

set_option maxRecDepth 100000 in
set_option maxHeartbeats 1000000 in
theorem from1_stops (n : Nat) (hn : 1 ≤ n) (w : World) (B T : Nat) (rest : Array Value) (ns : List Nd) (key : ByteArray) (seq : Int) (b1 b2 b3 n₀ : Nat) (h : SL w B T rest ns) (hlen : ns.length ≤ 4294967296)
    (hb1 : w.cell? ⟨b1, 0, none⟩ = some (.pointer (some ⟨B, 0, none⟩))) (hb2 : w.cell? ⟨b2, 0, none⟩ = some (.string key)) (hb3 : w.cell? ⟨b3, 0, none⟩ = some (.int .u64 seq))
    (hn0 : ∀ b, blks B ns b → b < n₀) :
    SeqStopsK Fence.wide n Try.prog 46 #[.pointer (some ⟨b1, 0, none⟩), .pointer (some ⟨b2, 0, none⟩), .pointer (some ⟨b3, 0, none⟩)] rowE (Below n₀)
      (fun xs => xs = (rs ns).drop (place (rs ns) key seq)) (fun pre => pre ≠ [] ∧ pre <+: (rs ns).drop (place (rs ns) key seq)) ns.length w := fun l J Jx W hW hJ hJx hY h0 => by
  have hc1 := cell_on hW hb1
  have hc2 := cell_on hW hb2
  have hc3 := cell_on hW hb3
  obtain ⟨e, he⟩ : ∃ e, place (rs ns) key seq = e := ⟨_, rfl⟩
  have hel : e ≤ ns.length := by have := place_le (rs ns) key seq; simp only [rs, List.length_map] at this he; omega
  have hs1 := search_any W B T rest ns key seq (h.below hW) hlen
  rw [he] at hs1 ⊢
  have HS1 := Lib.hid hs1
  have HBE := Lib.hid (bef_zero B h.hgt hel)
  have HW := Lib.hid hW
  clear hs1 he hb1 hb2 hb3
  have HY := Lib.hid hY
  have HJ := Lib.hid hJ
  clear hY hJ
  refine callsIn_of_wp Try.func46 rfl trivial ?_ rfl
  simp only [Try.ntmps46, List.size_toArray, List.length_cons, List.length_nil, Nat.reduceAdd, Nat.reduceSub, Array.replicate_succ, Array.replicate_zero, List.push_toArray, List.append_toArray, List.nil_append, List.cons_append]
  gi_wp2_with (first
    | (refine ⟨trivial, ?_⟩; gi_at_call 31; refine (callsIn_wide.2 HS1.out).mono ?_; rintro e1 w1 ⟨rfl, hb1⟩)
    | (refine wpListIn_store_new rfl 29 _ _ rfl 29 ptr0 (bef B ns e 0) rfl rfl rfl Try.size29 (ptrs_one _) ?_; intro W2 hbW hA
       have hbe := HBE.out
       have hbb : Below W.heap.size W W2 := below_step hb1 hbW (Nat.le_refl _)
       have hc0 : W2.cell? ⟨w1.heap.size, 0, none⟩ = some (.pointer (some ⟨blkAt B ns e, 0, none⟩)) := (cell_of hA 0).trans hbe
       have S2 := (h.below HW.out).below hbb
       have hnx := S2.next hel
       have hJ2 := Lib.hid (abides_below HJ.out h0 hbb)
       change W2.cell? _ = some (.pointer (ptrAt ns e)) at hnx
       clear hbe hA))
  gi_loopw [7] (fun v wr => ItI B T rest ns e J v wr) (fun v _ => ns.length - posV ns v)
  case atStart => exact ⟨e, Nat.le_refl _, hel, rfl, by rw [Nat.sub_self]; exact hJ2.out, S2⟩
  case round =>
    obtain ⟨q, hq1, hq2, rfl, hJq, Sq⟩ := hrel
    cases hq : ns[q]? with
    | none =>
      have e1 : ptrAt ns q = none := by rw [ptrAt, hq]; rfl
      rw [e1]
      have HQ := Lib.hid hq
      clear e1 hq
      gi_wp2
      refine ⟨fun _ h => (by cases h), ?_⟩
      gi_wp2
      go_end0
      have hl : ns.length ≤ q := by simpa using HQ.out
      refine ⟨⟨_, rfl⟩, .inl ⟨_, ?_, hJq⟩⟩
      rw [List.take_of_length_le]; simp [rs]; omega
    | some m =>
      have e1 : ptrAt ns q = some ⟨m.blk, 0, none⟩ := by rw [ptrAt, hq]; rfl
      rw [e1]
      have hql : q < ns.length := (List.getElem?_eq_some_iff.1 hq).1
      obtain ⟨hr0, hr1, hr2, hr3⟩ := Sq.rowAt hq
      obtain ⟨f1, t1, a1, bd1, hy1, hR1⟩ := HY.out _ m.row wr hJq (by rw [List.length_take]; simp [rs]; omega)
      dsimp only [rowE] at hy1
      have HQ := Lib.hid hq
      have HJQ := Lib.hid hJq
      clear e1 hq hJq
      gi_wp2
      refine hR1.mono ?_
      rintro e2 W3 (⟨rfl, hJ3, hk3⟩ | ⟨rfl, hx3⟩)
      · have SW := Sq.keep (w' := W3) fun b hb => hk3.block b (hn0 b hb)
        have hnx3 := SW.next (e := q + 1) hql
        have hb3 : blkAt B ns (q + 1) = m.blk := by have h1 := HQ.out; simp only [blkAt, h1]
        rw [hb3] at hnx3
        change W3.cell? _ = some (.pointer (ptrAt ns (q + 1))) at hnx3
        clear hb3
        gi_wp2
        go_roundw
        case rel =>
          refine ⟨q + 1, by omega, hql, rfl, ?_, SW⟩
          rw [take_row hq1 HQ.out]; exact hJ3
        case measure =>
          have h1 := posV_at (List.nodup_cons.1 SW.nodup).2 (q := q + 1) hql
          have h2 := posV_at (List.nodup_cons.1 SW.nodup).2 hq2
          have h3 : ptrAt ns q = some ⟨m.blk, 0, none⟩ := by have h4 := HQ.out; simp [ptrAt, h4]
          rw [h3] at h2
          show ns.length - posV ns (.pointer (ptrAt ns (q + 1))) < ns.length - posV ns (.pointer (some ⟨m.blk, 0, none⟩))
          omega
      · gi_wp2
        go_end0
        refine ⟨⟨_, rfl⟩, .inr ⟨_, ⟨by simp, ?_⟩, hx3⟩⟩
        rw [← take_row hq1 HQ.out]
        exact List.take_prefix _ _

end Go.Proofs.Ythhdameaihclmaa
