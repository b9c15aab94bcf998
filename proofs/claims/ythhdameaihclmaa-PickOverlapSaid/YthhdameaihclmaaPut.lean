/- Put of the skip list: it takes a row whose place is free, and leaves a skip list. Condition: at most 2^32 rows. -/
import Derived.Test.YthhdameaihclmaaSk
import Derived.BigRegion
import Derived.Deep.DeepCutAuto
namespace Go.Proofs.Ythhdameaihclmaa
open Go.RowKit Sk

/-! ## a row stored over a whole block -/
theorem setCells_heap_other (w : World) (b : Nat) (vs : List Value) (o k : Nat) (h : k ≠ b) : (w.setCells b o vs).heap[k]? = w.heap[k]? := by
  induction vs generalizing w o with
  | nil => rfl
  | cons v r ih => rw [World.setCells, ih, Below.heap_setCell _ _ _ _ h]
theorem setCells_heap (w : World) (b t : Nat) (vs : List Value) (pre cs : List Value) (hg : w.heap[b]? = some (.cells (pre ++ cs).toArray t (0, 0))) (hl : cs.length = vs.length) :
    (w.setCells b pre.length vs).heap[b]? = some (.cells (pre ++ vs).toArray t (0, 0)) := by
  induction vs generalizing w pre cs with
  | nil => cases cs with
    | nil => exact hg
    | cons _ _ => simp at hl
  | cons v r ih =>
    cases cs with
    | nil => simp at hl
    | cons c cs =>
      rw [World.setCells]
      have h1 := heap_setCell_same w b pre.length _ t v hg
      have e : (pre ++ c :: cs).toArray.setIfInBounds pre.length v = ((pre ++ [v]) ++ cs).toArray := by simp
      rw [e] at h1
      have h2 := ih (w.setCell ⟨b, pre.length, none⟩ v) (pre ++ [v]) cs h1 (by simpa using hl)
      simpa using h2
theorem setCells_frame (w : World) (b : Nat) (vs : List Value) (o : Nat) : (w.setCells b o vs).os = w.os ∧ (w.setCells b o vs).tape = w.tape ∧ (w.setCells b o vs).output = w.output ∧ (w.setCells b o vs).drawn = w.drawn ∧ (w.setCells b o vs).heap.size = w.heap.size := by
  induction vs generalizing w o with
  | nil => exact ⟨rfl, rfl, rfl, rfl, rfl⟩
  | cons v r ih =>
    rw [World.setCells]
    obtain ⟨h1, h2, h3, h4, h5⟩ := ih (w.setCell ⟨b, o, none⟩ v) (o + 1)
    exact ⟨h1, h2, h3, h4, by rw [h5]; simp [World.setCell]⟩
theorem world_ext {w w' : World} (h : ∀ k : Nat, w.heap[k]? = w'.heap[k]?) (h1 : w.os = w'.os) (h2 : w.tape = w'.tape) (h3 : w.output = w'.output) (h4 : w.drawn = w'.drawn) : w = w' := by
  obtain ⟨a, b, c, d, e⟩ := w
  obtain ⟨a', b', c', d', e'⟩ := w'
  have : a = a' := Array.ext_getElem? h
  simp only at h1 h2 h3 h4
  subst this; subst h1; subst h2; subst h3; subst h4; rfl
theorem alloc_setCells (w : World) (t : Nat) (cs cells : Array Value) (hl : cs.size = cells.size) : (w.alloc (.cells cs t)).setCells w.heap.size 0 cells.toList = w.alloc (.cells cells t) := by
  obtain ⟨h1, h2, h3, h4, h5⟩ := setCells_frame (w.alloc (.cells cs t)) w.heap.size cells.toList 0
  refine world_ext (fun k => ?_) h1 h2 h3 h4
  by_cases e : k = w.heap.size
  · subst e
    have := setCells_heap (w.alloc (.cells cs t)) w.heap.size t cells.toList [] cs.toList (by simpa using heap_alloc_new w _) (by simpa using hl)
    rw [heap_alloc_new]
    simpa using this
  · rw [setCells_heap_other _ _ _ _ _ e]
    rcases Nat.lt_or_ge k w.heap.size with hk | hk
    · rw [Below.heap_alloc _ _ _ hk, Below.heap_alloc _ _ _ hk]
    · rw [Array.getElem?_eq_none (by simp; omega), Array.getElem?_eq_none (by simp; omega)]
/-- 'x := f()' of an array: the new variable is stored over at once; the world behind is a name. -/
theorem wpList_store_new {P : Program} {ops : Array Oper} {rest : List Oper} {op : Oper} {a : Act} {w : World} {Q : Exit → Act → World → Prop} (hgd : op.guard = none) (ty : TypeId) (x y : Operand) (ho : op.op = .store ty x y)
    (t : Nat) (cs cells : Array Value) (hl : cs.size = cells.size) (hx : a.eval x = .pointer (some ⟨w.heap.size, 0, none⟩)) (hy : a.eval y = .agg cells)
    (hi : (P.info? ty).map (·.size) = some cells.size) (h1 : cells.all (·.oneCell') = true)
    (h : ∀ W, Below w.heap.size w W → W.heap[w.heap.size]? = some (.cells cells t (0, 0)) → wpList P ops Q rest (a.put op.dst undef) W) : wpList P ops Q (op :: rest) a (w.alloc (.cells cs t)) :=
  wpList_store_mid hgd ty x y ho w.heap.size 0 cells hx hy (by have := there_row (heap_alloc_new w (.cells cs t)); rwa [hl] at this) hi h1
    (by rw [alloc_setCells _ _ _ _ hl]; exact h _ ((Below.refl _ _).alloc (Nat.le_refl _) _) (heap_alloc_new w _))

def ptr0 : Array Value := #[.pointer none, .pointer none, .pointer none, .pointer none, .pointer none, .pointer none, .pointer none, .pointer none, .pointer none, .pointer none, .pointer none, .pointer none]
def rowC (r : Rw) : Array Value := #[.string r.key, .int .u64 r.seq, .int .i64 r.kind, .string r.val]

theorem pos_zero {ns : List Nd} (hg : ∀ n ∈ ns, 1 ≤ n.h ∧ n.h ≤ 12) {e : Nat} (he : e ≤ ns.length) : pos (hs ns) 0 e = e := by
  refine fin_uniq (Nat.zero_le _) (Nat.le_refl _) (fun q h1 h2 => by omega) ?_
  rcases Nat.eq_zero_or_pos e with h0 | h0
  · exact .inl h0
  · have hq : ns[e - 1]? = some ns[e - 1] := List.getElem?_eq_getElem (by omega)
    have := (hg _ (List.mem_of_getElem? hq)).1
    exact .inr ⟨h0, by rw [hs_get hq]; omega⟩
theorem bef_zero {ns : List Nd} (B : Nat) (hg : ∀ n ∈ ns, 1 ≤ n.h ∧ n.h ≤ 12) {e : Nat} (he : e ≤ ns.length) : (bef B ns e 0)[0]? = some (.pointer (some ⟨blkAt B ns e, 0, none⟩)) := by
  rw [bef, ptrs_get _ _ (by omega), if_pos (Nat.zero_le _), pos_zero hg he]
/-- The first link of a position: the node that stands there. -/
theorem SL.next {w : World} {B T : Nat} {rest : Array Value} {ns : List Nd} (h : SL w B T rest ns) {e : Nat} (he : e ≤ ns.length) :
    w.cell? ⟨blkAt B ns e, 4, none⟩ = some (.pointer ((ns[e]?).map fun n => ⟨n.blk, 0, none⟩)) := by
  have h1 := h.link (p := e) (i := 0) he (by omega) (by
    rcases Nat.eq_zero_or_pos e with h0 | h0
    · exact .inl h0
    · have hq : ns[e - 1]? = some ns[e - 1] := List.getElem?_eq_getElem (by omega)
      exact .inr (by rw [hs_get hq]; exact (h.hgt _ (List.mem_of_getElem? hq)).1))
  rw [Nat.add_zero] at h1
  rw [h1]
  rcases Nat.lt_or_ge e ns.length with hl | hl
  · rw [List.drop_eq_getElem_cons hl, nx, if_pos (by have := (h.hgt _ (List.getElem_mem hl)).1; omega), List.getElem?_eq_getElem hl]; rfl
  · rw [List.drop_eq_nil_of_le hl, List.getElem?_eq_none hl]; rfl

theorem below_drewN {B : Nat} {a w : World} (h : Below B a w) (n : Nat) : Below B a (w.drewN n) := ⟨h.os, h.tape, h.output, h.size, h.block⟩

/-! ## putting a row -/
def clampH (hgt : Int) : Nat := (min (max hgt 1) 12).toNat
theorem clampH_le (x : Int) : 1 ≤ clampH x ∧ clampH x ≤ 12 := by unfold clampH; omega
def insN (ns : List Nd) (e : Nat) (n : Nd) : List Nd := ns.take e ++ n :: ns.drop e
structure Off (S : Nat → Prop) (w w' : World) : Prop where
  os : w'.os = w.os
  tape : w'.tape = w.tape
  output : w'.output = w.output
  size : w.heap.size ≤ w'.heap.size
  block : ∀ k, k < w.heap.size → ¬ S k → w'.heap[k]? = w.heap[k]?
theorem Off.of_below {S : Nat → Prop} {w w' : World} (h : Below w.heap.size w w') : Off S w w' := ⟨h.os, h.tape, h.output, h.size, fun k hk _ => h.block k hk⟩
theorem Off.trans {S : Nat → Prop} {a b c : World} (h : Off S a b) (k : Off S b c) : Off S a c :=
  ⟨k.os.trans h.os, k.tape.trans h.tape, k.output.trans h.output, Nat.le_trans h.size k.size, fun i hi hs => (k.block i (Nat.lt_of_lt_of_le hi h.size) hs).trans (h.block i hi hs)⟩
theorem Off.drewN {S : Nat → Prop} {a b : World} (h : Off S a b) (n : Nat) : Off S a (b.drewN n) := ⟨h.os, h.tape, h.output, h.size, h.block⟩
theorem Off.drew {S : Nat → Prop} {a b : World} (h : Off S a b) : Off S a b.drew := ⟨h.os, h.tape, h.output, h.size, h.block⟩
theorem Off.alloc {S : Nat → Prop} {a b : World} (h : Off S a b) (o : Obj) : Off S a (b.alloc o) := h.trans (Off.of_below ((Below.refl _ _).alloc (Nat.le_refl _) _))
theorem Off.setCell {S : Nat → Prop} {a b : World} (h : Off S a b) {p : Addr} (hp : S p.block ∨ a.heap.size ≤ p.block) (u : Value) : Off S a (b.setCell p u) :=
  ⟨h.os, h.tape, h.output, by simpa [World.setCell] using h.size, fun i hi hs => (Below.heap_setCell b p u i (by
    rintro rfl
    rcases hp with hp | hp
    · exact hs hp
    · omega)).trans (h.block i hi hs)⟩
theorem Off.below {S : Nat → Prop} {w w' : World} {n : Nat} (h : Off S w w') (hn : n ≤ w.heap.size) (hS : ∀ k, S k → n ≤ k) : Below n w w' :=
  ⟨h.os, h.tape, h.output, h.size, fun k hk => h.block k (by omega) (fun hs => by have := hS k hs; omega)⟩

/-- The blocks of a list. -/
def blks (B : Nat) (ns : List Nd) (b : Nat) : Prop := b = B ∨ b ∈ ns.map Nd.blk
/-- The link of level i of node q, the new node being there. -/
def lk2 (ns : List Nd) (e : Nat) (m : Nd) (q : Nat) (n : Nd) (i : Nat) : Option Addr :=
  if i < n.h then nx i ((insN ns e m).drop (if q < e then q + 1 else q + 2)) else none
structure PutI (w : World) (B T : Nat) (rest : Array Value) (ns : List Nd) (e : Nat) (m : Nd) (arr k : Nat) (wr : World) : Prop where
  head : wr.heap[B]? = some (.cells (headC (fun i => if i < k then nx i (insN ns e m) else nx i ns) ns.length (mxh ns) rest) T (0, 0))
  nodes : ∀ (q : Nat) (n : Nd), ns[q]? = some n → wr.heap[n.blk]? = some (.cells (nodeC n.row (fun i => if i < k then lk2 ns e m q n i else lk ns q n i)) 31 (0, 0))
  new : wr.heap[m.blk]? = some (.cells (nodeC m.row (fun i => if i < k then nx i (ns.drop e) else none)) 31 (0, 0))
  arr : wr.heap[arr]? = some (.cells (bef B ns e 0) 29 (0, 0))
  off : Off (blks B ns) w wr

theorem insN_get (ns : List Nd) (e : Nat) (m : Nd) (he : e ≤ ns.length) (q : Nat) : (insN ns e m)[q]? = if q < e then ns[q]? else if q = e then some m else ns[q - 1]? := by
  unfold insN
  by_cases h1 : q < e
  · rw [if_pos h1, List.getElem?_append_left (by simp; omega), List.getElem?_take_of_lt h1]
  · rw [if_neg h1, List.getElem?_append_right (by simp; omega), List.length_take, Nat.min_eq_left he]
    by_cases h2 : q = e
    · rw [if_pos h2, h2, Nat.sub_self]; rfl
    · obtain ⟨d, hd⟩ : ∃ d, q - e = d + 1 := ⟨q - e - 1, by omega⟩
      rw [if_neg h2, hd, List.getElem?_cons_succ, List.getElem?_drop]
      congr 1; omega
theorem insN_len (ns : List Nd) (e : Nat) (m : Nd) (he : e ≤ ns.length) : (insN ns e m).length = ns.length + 1 := by
  unfold insN; simp; omega
theorem insN_drop (ns : List Nd) (e : Nat) (m : Nd) (he : e ≤ ns.length) (q : Nat) (hq : e ≤ q) : (insN ns e m).drop (q + 1) = ns.drop q := by
  refine List.ext_getElem? fun j => ?_
  rw [List.getElem?_drop, List.getElem?_drop, insN_get ns e m he, if_neg (by omega), if_neg (by omega)]
  congr 1; omega
theorem insN_drop_e (ns : List Nd) (e : Nat) (m : Nd) (he : e ≤ ns.length) : (insN ns e m).drop e = m :: ns.drop e := by
  have h1 : e < (insN ns e m).length := by rw [insN_len ns e m he]; omega
  have h2 : (insN ns e m)[e] = m := by
    have := insN_get ns e m he e
    rw [if_neg (by omega), if_pos rfl, List.getElem?_eq_getElem h1] at this
    exact Option.some.inj this
  rw [List.drop_eq_getElem_cons h1, h2, insN_drop ns e m he e (Nat.le_refl _)]
theorem insN_drop_lt (ns : List Nd) (e : Nat) (m : Nd) (he : e ≤ ns.length) (p : Nat) (hp : p < e) : (insN ns e m).drop p = ns[p] :: (insN ns e m).drop (p + 1) := by
  have h1 : p < (insN ns e m).length := by rw [insN_len ns e m he]; omega
  have h2 : (insN ns e m)[p] = ns[p] := by
    have := insN_get ns e m he p
    rw [if_pos hp, List.getElem?_eq_getElem h1, List.getElem?_eq_getElem (by omega)] at this
    exact Option.some.inj this
  rw [List.drop_eq_getElem_cons h1, h2]
theorem hs_at (ns : List Nd) (p : Nat) (hp : p < ns.length) : (hs ns).getD p 0 = ns[p].h := by simp [hs, hp]

theorem nx_skip (ns : List Nd) (i : Nat) {p e : Nat} (he : e ≤ ns.length) (hpe : p ≤ e) (h : ∀ x, p ≤ x → x < e → ¬ i < (hs ns).getD x 0) : nx i (ns.drop p) = nx i (ns.drop e) := by
  obtain ⟨d, hd⟩ : ∃ d, e - p = d := ⟨_, rfl⟩
  induction d generalizing p with
  | zero => rw [show p = e by omega]
  | succ d ih =>
    have hlt : p < ns.length := by omega
    have h1 := h p (Nat.le_refl _) (by omega)
    rw [hs_at ns p hlt] at h1
    rw [List.drop_eq_getElem_cons hlt, nx, if_neg h1]
    exact ih (by omega) (fun x h2 h3 => h x (by omega) h3) (by omega)
theorem nx_ins_hit (ns : List Nd) (i : Nat) {p e : Nat} (m : Nd) (he : e ≤ ns.length) (hpe : p ≤ e) (x : Nat) (hx : p ≤ x) (hxe : x < e) (hix : i < (hs ns).getD x 0) : nx i ((insN ns e m).drop p) = nx i (ns.drop p) := by
  obtain ⟨d, hd⟩ : ∃ d, x - p = d := ⟨_, rfl⟩
  induction d generalizing p with
  | zero =>
    obtain rfl : p = x := by omega
    have hlt : p < ns.length := by omega
    rw [hs_at ns p hlt] at hix
    rw [insN_drop_lt ns e m he p hxe, List.drop_eq_getElem_cons hlt, nx, nx, if_pos hix, if_pos hix]
  | succ d ih =>
    have hlt : p < ns.length := by omega
    rw [insN_drop_lt ns e m he p (by omega), List.drop_eq_getElem_cons hlt, nx, nx]
    by_cases hc : i < ns[p].h
    · rw [if_pos hc, if_pos hc]
    · rw [if_neg hc, if_neg hc]
      exact ih (by omega) (by omega) (by omega)
theorem nx_ins_miss (ns : List Nd) (i : Nat) {p e : Nat} (m : Nd) (he : e ≤ ns.length) (hpe : p ≤ e) (h : ∀ x, p ≤ x → x < e → ¬ i < (hs ns).getD x 0) :
    nx i ((insN ns e m).drop p) = if i < m.h then some ⟨m.blk, 0, none⟩ else nx i (ns.drop e) := by
  obtain ⟨d, hd⟩ : ∃ d, e - p = d := ⟨_, rfl⟩
  induction d generalizing p with
  | zero => rw [show p = e by omega, insN_drop_e ns e m he, nx]
  | succ d ih =>
    have hlt : p < ns.length := by omega
    have h1 := h p (Nat.le_refl _) (by omega)
    rw [hs_at ns p hlt] at h1
    rw [insN_drop_lt ns e m he p (by omega), nx, if_neg h1]
    exact ih (by omega) (fun x h2 h3 => h x (by omega) h3) (by omega)
theorem nx_ins_low (ns : List Nd) (i : Nat) {p e : Nat} (m : Nd) (he : e ≤ ns.length) (hpe : p ≤ e) (hm : ¬ i < m.h) : nx i ((insN ns e m).drop p) = nx i (ns.drop p) := by
  rcases Classical.em (∃ x, p ≤ x ∧ x < e ∧ i < (hs ns).getD x 0) with ⟨x, h1, h2, h3⟩ | hn
  · exact nx_ins_hit ns i m he hpe x h1 h2 h3
  · have hn' : ∀ x, p ≤ x → x < e → ¬ i < (hs ns).getD x 0 := fun x h1 h2 h3 => hn ⟨x, h1, h2, h3⟩
    rw [nx_ins_miss ns i m he hpe hn', if_neg hm, nx_skip ns i he hpe hn']

theorem nodeC_set (r : Rw) (f : Nat → Option Addr) (i : Nat) (hi : i < 12) (p : Option Addr) : (nodeC r f).setIfInBounds (4 + i) (.pointer p) = nodeC r (fun j => if j = i then p else f j) := by
  match i, hi with
  | 0, _ => rfl | 1, _ => rfl | 2, _ => rfl | 3, _ => rfl | 4, _ => rfl | 5, _ => rfl | 6, _ => rfl | 7, _ => rfl | 8, _ => rfl | 9, _ => rfl | 10, _ => rfl | 11, _ => rfl
theorem nodeC_congr (r : Rw) {f g : Nat → Option Addr} (h : ∀ i, i < 12 → f i = g i) : nodeC r f = nodeC r g := by
  unfold nodeC
  rw [h 0 (by omega), h 1 (by omega), h 2 (by omega), h 3 (by omega), h 4 (by omega), h 5 (by omega), h 6 (by omega), h 7 (by omega), h 8 (by omega), h 9 (by omega), h 10 (by omega), h 11 (by omega)]
theorem headC_congr {f g : Nat → Option Addr} (h : ∀ i, i < 12 → f i = g i) (a b : Nat) (rest : Array Value) : headC f a b rest = headC g a b rest := by
  unfold headC; rw [nodeC_congr _ h]
theorem headC_set (f : Nat → Option Addr) (a b : Nat) (rest : Array Value) (i : Nat) (hi : i < 12) (p : Option Addr) : (headC f a b rest).setIfInBounds (4 + i) (.pointer p) = headC (fun j => if j = i then p else f j) a b rest := by
  unfold headC
  rw [Array.setIfInBounds_append_left (by simp [nodeC]; omega), nodeC_set _ _ _ hi]
theorem headC_len (f : Nat → Option Addr) (a b : Nat) (rest : Array Value) : (headC f a b rest)[16]? = some (.int .i64 a) := by
  obtain ⟨l⟩ := rest
  simp [headC, nodeC]
theorem headC_hgt (f : Nat → Option Addr) (a b : Nat) (rest : Array Value) : (headC f a b rest)[17]? = some (.int .i64 b) := by
  obtain ⟨l⟩ := rest
  simp [headC, nodeC]
theorem headC_setLen (f : Nat → Option Addr) (a b a' : Nat) (rest : Array Value) : (headC f a b rest).setIfInBounds 16 (.int .i64 a') = headC f a' b rest := by
  unfold headC
  obtain ⟨l⟩ := rest
  simp [nodeC]
theorem headC_setHgt (f : Nat → Option Addr) (a b b' : Nat) (rest : Array Value) : (headC f a b rest).setIfInBounds 17 (.int .i64 b') = headC f a b' rest := by
  unfold headC
  obtain ⟨l⟩ := rest
  simp [nodeC]
theorem mxh_ge (l : List Nat) (a : Nat) : l.foldl max a = max a (l.foldl max 0) := by
  induction l generalizing a with
  | nil => simp
  | cons x l ih => rw [List.foldl_cons, List.foldl_cons, ih (max a x), ih (max 0 x)]; omega
theorem mxh_ins (ns : List Nd) (e : Nat) (m : Nd) : mxh (insN ns e m) = max (mxh ns) m.h := by
  unfold mxh hs insN
  conv => rhs; rw [← List.take_append_drop e ns]
  rw [List.map_append, List.map_cons, List.foldl_append, List.foldl_cons, List.map_append, List.foldl_append, mxh_ge _ (max _ m.h), mxh_ge _ (List.foldl max 0 (List.map Nd.h (List.take e ns)))]
  omega
theorem rs_ins (ns : List Nd) (e : Nat) (m : Nd) : rs (insN ns e m) = ins (rs ns) e m.row := by
  unfold rs insN ins; simp
theorem hs_ins (ns : List Nd) (e : Nat) (m : Nd) : hs (insN ns e m) = (hs ns).take e ++ m.h :: (hs ns).drop e := by
  unfold hs insN; simp

theorem blkAt_in {B : Nat} {ns : List Nd} {p : Nat} (hp : p ≤ ns.length) : blks B ns (blkAt B ns p) := by
  cases p with
  | zero => exact .inl rfl
  | succ q =>
    have hq : ns[q]? = some ns[q] := List.getElem?_eq_getElem (by omega)
    refine .inr (List.mem_map.2 ⟨ns[q], List.getElem_mem _, ?_⟩)
    simp only [blkAt, hq]
theorem SL.inj {w : World} {B T : Nat} {rest : Array Value} {ns : List Nd} (h : SL w B T rest ns) {q q' : Nat} {n n' : Nd} (hq : ns[q]? = some n) (hq' : ns[q']? = some n') (e : n.blk = n'.blk) : q = q' := by
  have hn := (List.nodup_cons.1 h.nodup).2
  obtain ⟨h1, rfl⟩ := List.getElem?_eq_some_iff.1 hq
  obtain ⟨h2, rfl⟩ := List.getElem?_eq_some_iff.1 hq'
  rcases Nat.lt_trichotomy q q' with h3 | h3 | h3
  · exact absurd (by rw [List.getElem_map, List.getElem_map]; exact e) (List.pairwise_iff_getElem.1 hn q q' (by simpa using h1) (by simpa using h2) h3)
  · exact h3
  · exact absurd (by rw [List.getElem_map, List.getElem_map]; exact e.symm) (List.pairwise_iff_getElem.1 hn q' q (by simpa using h2) (by simpa using h1) h3)
theorem SL.ne_head {w : World} {B T : Nat} {rest : Array Value} {ns : List Nd} (h : SL w B T rest ns) {n : Nd} (hn : n ∈ ns) : n.blk ≠ B := fun e =>
  (List.nodup_cons.1 h.nodup).1 (e ▸ List.mem_map.2 ⟨n, hn, rfl⟩)
theorem SL.blk_lt {w : World} {B T : Nat} {rest : Array Value} {ns : List Nd} (h : SL w B T rest ns) {b : Nat} (hb : blks B ns b) : b < w.heap.size := h.lt hb

section
variable {w : World} {B T : Nat} {rest : Array Value} {ns : List Nd} {e : Nat} {m : Nd} {arr : Nat}
theorem PutI.start (h : SL w B T rest ns) {wr : World} (hb : Below w.heap.size w wr) (hm : wr.heap[m.blk]? = some (.cells (nodeC m.row fun _ => none) 31 (0, 0))) (ha : wr.heap[arr]? = some (.cells (bef B ns e 0) 29 (0, 0))) :
    PutI w B T rest ns e m arr 0 wr := by
  have h' := h.below hb
  refine ⟨?_, fun q n hq => ?_, ?_, ha, Off.of_below hb⟩
  · simpa using h'.head
  · simpa using h'.nodes q n hq
  · simpa using hm
/-- The cell that the loop reads at level k. -/
theorem PutI.cellP (he : e ≤ ns.length) {k : Nat} {wr : World} (hI : PutI w B T rest ns e m arr k wr) (hk : k < 12) :
    wr.cell? ⟨blkAt B ns (pos (hs ns) k e), 4 + k, none⟩ = some (.pointer (nx k (ns.drop e))) ∧ wr.frozen? ⟨blkAt B ns (pos (hs ns) k e), 4 + k, none⟩ = false := by
  obtain ⟨_, c2, c3, c4⟩ := fin_char (H := hs ns) (i := k) (Nat.zero_le e)
  have hP : pos (hs ns) k e ≤ e := c2
  have hsk := nx_skip ns k he hP c3
  unfold pos at hP hsk ⊢
  obtain ⟨P, hPe⟩ : ∃ P, fin (hs ns) k 0 e = P := ⟨_, rfl⟩
  rw [hPe] at hP hsk c3 c4 ⊢
  cases P with
  | zero =>
    rw [blkAt, cell_of hI.head, headC_link _ _ _ _ _ hk, if_neg (by omega), ← hsk]
    exact ⟨rfl, free_of hI.head _⟩
  | succ q =>
    have hq : ns[q]? = some ns[q] := List.getElem?_eq_getElem (by omega)
    have hh : k < ns[q].h := by
      rcases c4 with c4 | ⟨_, c4⟩
      · omega
      · rw [Nat.add_sub_cancel, hs_get hq] at c4; exact c4
    simp only [blkAt, hq]
    rw [cell_of (hI.nodes q _ hq), nodeC_link _ _ _ hk, if_neg (by omega), lk, if_pos hh, hsk]
    exact ⟨rfl, free_of (hI.nodes q _ hq) _⟩
theorem PutI.step (h : SL w B T rest ns) (he : e ≤ ns.length) {k : Nat} {wr : World} (hI : PutI w B T rest ns e m arr k wr) (hk : k < 12) (hkm : k < m.h)
    (hg : w.heap.size ≤ m.blk) (ha : w.heap.size ≤ arr) (hne : arr ≠ m.blk) :
    PutI w B T rest ns e m arr (k + 1) ((wr.setCell ⟨m.blk, 4 + k, none⟩ (.pointer (nx k (ns.drop e)))).setCell ⟨blkAt B ns (pos (hs ns) k e), 4 + k, none⟩ (.pointer (some ⟨m.blk, 0, none⟩))) := by
  obtain ⟨_, c2, c3, c4⟩ := fin_char (H := hs ns) (i := k) (Nat.zero_le e)
  have hP : pos (hs ns) k e ≤ e := c2
  unfold pos at hP ⊢
  obtain ⟨P, hPe⟩ : ∃ P, fin (hs ns) k 0 e = P := ⟨_, rfl⟩
  rw [hPe] at hP c3 c4 ⊢
  have hbin : blks B ns (blkAt B ns P) := blkAt_in (by omega)
  have hblt := h.blk_lt hbin
  have hBlt := h.blk_lt (b := B) (.inl rfl)
  have hsplit : ∀ (a : Option Addr) (f g : Nat → Option Addr), a = f k → ∀ i, (if i = k then a else if i < k then f i else g i) = if i < k + 1 then f i else g i := by
    intro a f g hf i
    by_cases h1 : i = k
    · subst h1; rw [if_pos rfl, if_pos (by omega), hf]
    · rw [if_neg h1]
      by_cases h2 : i < k
      · rw [if_pos h2, if_pos (by omega)]
      · rw [if_neg h2, if_neg (by omega)]
  have hstay : ∀ (f g : Nat → Option Addr), f k = g k → ∀ i, (if i < k then f i else g i) = if i < k + 1 then f i else g i := by
    intro f g hf i
    by_cases h1 : i = k
    · subst h1; rw [if_neg (by omega), if_pos (by omega), hf]
    · by_cases h2 : i < k
      · rw [if_pos h2, if_pos (by omega)]
      · rw [if_neg h2, if_neg (by omega)]
  refine ⟨?_, fun q n hq => ?_, ?_, ?_, ?_⟩
  · cases P with
    | zero =>
      rw [blkAt, heap_setCell_same _ _ _ _ _ _ ((Below.heap_setCell wr _ _ B (by show B ≠ m.blk; omega)).trans hI.head), headC_set _ _ _ _ _ hk]
      congr 2
      refine headC_congr (fun i _ => hsplit _ (fun i => nx i (insN ns e m)) (fun i => nx i ns) ?_ i) _ _ _
      have := nx_ins_miss ns k m he (Nat.zero_le e) c3
      rw [if_pos hkm] at this
      exact this.symm
    | succ q =>
      have hq : ns[q]? = some ns[q] := List.getElem?_eq_getElem (by omega)
      have hb : blkAt B ns (q + 1) = ns[q].blk := by simp only [blkAt, hq]
      rw [Below.heap_setCell _ _ _ B (by show B ≠ blkAt B ns (q + 1); rw [hb]; exact (h.ne_head (List.getElem_mem _)).symm), Below.heap_setCell wr _ _ B (by show B ≠ m.blk; omega), hI.head]
      congr 2
      refine headC_congr (fun i _ => hstay (fun i => nx i (insN ns e m)) (fun i => nx i ns) ?_ i) _ _ _
      have hx : k < (hs ns).getD q 0 := by
        rcases c4 with c4 | ⟨_, c4⟩
        · omega
        · simpa using c4
      exact nx_ins_hit ns k m he (Nat.zero_le e) q (Nat.zero_le _) (by omega) hx
  · have hnin : blks B ns n.blk := .inr (List.mem_map.2 ⟨n, List.mem_of_getElem? hq, rfl⟩)
    have hnlt := h.blk_lt hnin
    have hql : q < ns.length := (List.getElem?_eq_some_iff.1 hq).1
    have hs1 : (wr.setCell ⟨m.blk, 4 + k, none⟩ (.pointer (nx k (ns.drop e)))).heap[n.blk]? = _ := (Below.heap_setCell wr _ _ n.blk (by show n.blk ≠ m.blk; omega)).trans (hI.nodes q n hq)
    by_cases hPq : P = q + 1
    · subst hPq
      have hb : blkAt B ns (q + 1) = n.blk := by simp only [blkAt, hq]
      have hx : k < n.h := by
        rcases c4 with c4 | ⟨_, c4⟩
        · omega
        · rw [Nat.add_sub_cancel, hs_get hq] at c4; exact c4
      rw [hb, heap_setCell_same _ _ _ _ _ _ hs1, nodeC_set _ _ _ hk]
      congr 2
      refine nodeC_congr _ fun i _ => hsplit _ (fun i => lk2 ns e m q n i) (fun i => lk ns q n i) ?_ i
      have := nx_ins_miss ns k m he hP c3
      rw [if_pos hkm] at this
      show some _ = lk2 ns e m q n k
      rw [lk2, if_pos hx, if_pos (by omega), this]
    · have hbne : n.blk ≠ blkAt B ns P := by
        cases P with
        | zero => exact h.ne_head (List.mem_of_getElem? hq)
        | succ q' =>
          have hq' : ns[q']? = some ns[q'] := List.getElem?_eq_getElem (by omega)
          simp only [blkAt, hq']
          intro e1
          exact hPq (by rw [h.inj hq hq' e1])
      rw [Below.heap_setCell _ _ _ n.blk hbne, hs1]
      congr 2
      refine nodeC_congr _ fun i _ => hstay (fun i => lk2 ns e m q n i) (fun i => lk ns q n i) ?_ i
      show lk2 ns e m q n k = lk ns q n k
      unfold lk2 lk
      by_cases hx : k < n.h
      · rw [if_pos hx, if_pos hx]
        by_cases hqe : q < e
        · rw [if_pos hqe]
          have hqP : q + 1 < P := by
            rcases Nat.lt_or_ge q P with h1 | h1
            · omega
            · exact absurd (by rw [hs_get hq]; exact hx) (c3 q h1 hqe)
          have hx2 : k < (hs ns).getD (P - 1) 0 := by
            rcases c4 with c4 | ⟨_, c4⟩
            · omega
            · exact c4
          exact nx_ins_hit ns k m he (by omega) (P - 1) (by omega) (by omega) hx2
        · rw [if_neg hqe, insN_drop ns e m he (q + 1) (by omega)]
      · rw [if_neg hx, if_neg hx]
  · rw [Below.heap_setCell _ _ _ m.blk (by show m.blk ≠ blkAt B ns P; omega), heap_setCell_same _ _ _ _ _ _ hI.new, nodeC_set _ _ _ hk]
    congr 2
    exact nodeC_congr _ fun i _ => hsplit _ (fun i => nx i (ns.drop e)) (fun _ => none) rfl i
  · rw [Below.heap_setCell _ _ _ arr (by show arr ≠ blkAt B ns P; omega), Below.heap_setCell _ _ _ arr (by show arr ≠ m.blk; omega)]
    exact hI.arr
  · exact (hI.off.setCell (p := ⟨m.blk, 4 + k, none⟩) (.inr hg) _).setCell (p := ⟨blkAt B ns P, 4 + k, none⟩) (.inl hbin) _

theorem PutI.done (h : SL w B T rest ns) (he : e ≤ ns.length) {wr : World} (hI : PutI w B T rest ns e m arr m.h wr) (hm : 1 ≤ m.h ∧ m.h ≤ 12) (hw : 0 ≤ m.row.seq ∧ m.row.seq ≤ 18446744073709551615)
    (hg : w.heap.size ≤ m.blk) (hp : place (rs ns) m.row.key m.row.seq = e) (hn : ∀ n, ns[e]? = some n → at_ n.row m.row.key m.row.seq = false) (h' : Nat) (hh' : h' = max (mxh ns) m.h) :
    SL ((wr.setCell ⟨B, 16, none⟩ (.int .i64 ((ns.length : Int) + 1))).setCell ⟨B, 17, none⟩ (.int .i64 (h' : Int))) B T rest (insN ns e m) ∧
    Off (blks B ns) w ((wr.setCell ⟨B, 16, none⟩ (.int .i64 ((ns.length : Int) + 1))).setCell ⟨B, 17, none⟩ (.int .i64 (h' : Int))) := by
  have hBlt := h.blk_lt (b := B) (.inl rfl)
  have hnew : ∀ n ∈ ns, n.blk ≠ B := fun n hn => h.ne_head hn
  have hmB : m.blk ≠ B := by omega
  have hother : ∀ b, b ≠ B → ((wr.setCell ⟨B, 16, none⟩ (.int .i64 ((ns.length : Int) + 1))).setCell ⟨B, 17, none⟩ (.int .i64 (h' : Int))).heap[b]? = wr.heap[b]? := fun b hb => by
    rw [Below.heap_setCell _ _ _ b hb, Below.heap_setCell _ _ _ b hb]
  refine ⟨⟨?_, ?_, ?_, ?_, ?_, ?_⟩, (hI.off.setCell (p := ⟨B, 16, none⟩) (.inl (.inl rfl)) _).setCell (p := ⟨B, 17, none⟩) (.inl (.inl rfl)) _⟩
  · have h1 := heap_setCell_same wr B 16 _ T (.int .i64 ((ns.length : Int) + 1)) hI.head
    rw [show ((ns.length : Int) + 1) = ((ns.length + 1 : Nat) : Int) from rfl, headC_setLen] at h1
    rw [show ((ns.length : Int) + 1) = ((ns.length + 1 : Nat) : Int) from rfl, heap_setCell_same _ _ _ _ _ _ h1, headC_setHgt, insN_len ns e m he, mxh_ins, hh']
    congr 2
    refine headC_congr (fun i _ => ?_) _ _ _
    by_cases hi : i < m.h
    · rw [if_pos hi]
    · rw [if_neg hi]; exact (nx_ins_low ns i m he (Nat.zero_le e) hi).symm
  · intro q n hq
    rw [insN_get ns e m he] at hq
    by_cases h1 : q < e
    · rw [if_pos h1] at hq
      rw [hother _ (hnew n (List.mem_of_getElem? hq)), hI.nodes q n hq]
      congr 2
      refine nodeC_congr _ fun i _ => ?_
      unfold lk2 lk
      rw [if_pos h1]
      by_cases hi : i < m.h
      · rw [if_pos hi]
      · rw [if_neg hi, nx_ins_low ns i m he (by omega) hi]
    · rw [if_neg h1] at hq
      by_cases h2 : q = e
      · rw [if_pos h2] at hq
        cases hq
        subst h2
        rw [hother _ hmB, hI.new]
        congr 2
        refine nodeC_congr _ fun i _ => ?_
        unfold lk
        rw [insN_drop ns q m he q (Nat.le_refl _)]
      · rw [if_neg h2] at hq
        rw [hother _ (hnew n (List.mem_of_getElem? hq)), hI.nodes (q - 1) n hq]
        congr 2
        refine nodeC_congr _ fun i _ => ?_
        by_cases hi : i < m.h
        · rw [if_pos hi]
          unfold lk2 lk
          rw [if_neg (show ¬ q - 1 < e by omega), show q - 1 + 2 = q + 1 by omega]
        · rw [if_neg hi]
          unfold lk
          rw [insN_drop ns e m he q (by omega), show q - 1 + 1 = q by omega]
  · rw [rs_ins, ← hp]
    refine ins_ord h.ord fun x hx => ?_
    rw [hp] at hx
    obtain ⟨n, hq, rfl⟩ : ∃ n, ns[e]? = some n ∧ n.row = x := by
      simp only [rs, List.getElem?_map, Option.map_eq_some_iff] at hx
      exact hx
    exact hn n hq
  · intro n hn'
    unfold insN at hn'
    rcases List.mem_append.1 hn' with h1 | h1
    · exact h.hgt n (List.mem_of_mem_take h1)
    · rcases List.mem_cons.1 h1 with rfl | h1
      · exact hm
      · exact h.hgt n (List.mem_of_mem_drop h1)
  · intro n hn'
    unfold insN at hn'
    rcases List.mem_append.1 hn' with h1 | h1
    · exact h.wf n (List.mem_of_mem_take h1)
    · rcases List.mem_cons.1 h1 with rfl | h1
      · exact hw
      · exact h.wf n (List.mem_of_mem_drop h1)
  · have hp1 : List.Perm (B :: (insN ns e m).map Nd.blk) (m.blk :: B :: ns.map Nd.blk) := by
      have e1 : (insN ns e m).map Nd.blk = (ns.take e).map Nd.blk ++ m.blk :: (ns.drop e).map Nd.blk := by simp [insN]
      have e2 : ns.map Nd.blk = (ns.take e).map Nd.blk ++ (ns.drop e).map Nd.blk := by rw [← List.map_append, List.take_append_drop]
      rw [e1, e2]
      exact (List.Perm.cons B List.perm_middle).trans (List.Perm.swap _ _ _)
    refine hp1.nodup_iff.2 (List.nodup_cons.2 ⟨fun hm' => ?_, h.nodup⟩)
    have := h.blk_lt (b := m.blk) (by rcases List.mem_cons.1 hm' with h1 | h1; exact .inl h1; exact .inr h1)
    omega
end

theorem PutI.drew {w : World} {B T : Nat} {rest : Array Value} {ns : List Nd} {e : Nat} {m : Nd} {arr k : Nat} {wr : World} (h : PutI w B T rest ns e m arr k wr) : PutI w B T rest ns e m arr k wr.drew :=
  ⟨h.head, h.nodes, h.new, h.arr, h.off.drew⟩

set_option maxRecDepth 100000 in
set_option maxHeartbeats 1000000 in
theorem put_there (w : World) (B T : Nat) (rest : Array Value) (ns : List Nd) (r : Rw) (hgt : Int) (h : SL w B T rest ns) (hlen : ns.length ≤ 4294967296)
    (n : Nd) (hn : ns[place (rs ns) r.key r.seq]? = some n) (ht : at_ n.row r.key r.seq = true) :
    Calls Try.prog 9 #[.pointer (some ⟨B, 0, none⟩), .agg #[.string r.key, .int .u64 r.seq, .int .i64 r.kind, .string r.val], .int .i64 hgt] w fun e w' =>
      e = .returned (.bool false) ∧ Below w.heap.size w w' := by
  obtain ⟨e, he⟩ : ∃ e, place (rs ns) r.key r.seq = e := ⟨_, rfl⟩
  have hb0 : Below w.heap.size w (w.alloc (.cells #[.string r.key, .int .u64 r.seq, .int .i64 r.kind, .string r.val] 27)) := (Below.refl _ _).alloc (Nat.le_refl _) _
  have hs1 := search_any (w.alloc (.cells #[.string r.key, .int .u64 r.seq, .int .i64 r.kind, .string r.val] 27)) B T rest ns r.key r.seq (h.below hb0) hlen
  have hel : e ≤ ns.length := by have := place_le (rs ns) r.key r.seq; simp only [rs, List.length_map] at this he; omega
  rw [he] at hs1 hn
  have HS1 := Lib.hid hs1
  have HN := Lib.hid hn
  have HBE := Lib.hid (bef_zero B h.hgt hel)
  have HB0 := Lib.hid hb0
  have HR0 := Lib.hid (heap_alloc_new w (.cells (rowC r) 27))
  clear hs1 he hn hb0
  simp only [at_, Bool.and_eq_true, beq_iff_eq] at ht
  obtain ⟨ht1, ht2⟩ := ht
  have HT1 := Lib.hid ht1
  have HT2 := Lib.hid ht2
  clear ht1 ht2
  go_enter Try.func9, Try.ntmps9
  go_wp2_with (first
    | (go_at_call 31; refine HS1.out.mono ?_; rintro e1 w1 ⟨rfl, hb1⟩)
    | (refine wpList_store_new rfl 29 _ _ rfl 29 ptr0 (bef B ns e 0) rfl rfl rfl Try.size29 (ptrs_one _) ?_; intro W hbW hA
       have hbe := HBE.out
       have hb2 : Below w.heap.size w W := below_step (below_step HB0.out hb1 (Nat.le_refl _)) hbW (Nat.le_refl _)
       have hc0 : W.cell? ⟨w1.heap.size, 0, none⟩ = some (.pointer (some ⟨blkAt B ns e, 0, none⟩)) := (cell_of hA 0).trans hbe
       have S2 := h.below hb2
       have hnx := S2.next hel
       rw [HN.out] at hnx
       obtain ⟨hr0, hr1, hr2, hr3⟩ := S2.rowAt HN.out
       have hR := heap_on hbW (heap_on hb1 HR0.out)
       have hx0 : W.cell? ⟨w.heap.size, 0, none⟩ = some (.string r.key) := cell_of hR 0
       have hx1 : W.cell? ⟨w.heap.size, 1, none⟩ = some (.int .u64 r.seq) := cell_of hR 1
       clear hR hbe hA))
  have hk1 : (n.row.key.toList == r.key.toList) = true := beq_iff_eq.2 HT1.out
  have hk2 : (n.row.seq == r.seq) = true := beq_iff_eq.2 HT2.out
  go_quiet (fail)
  go_wp2
  go_ret
  exact ⟨rfl, below_drewN hb2 _⟩

/-- What a Put that takes a row leaves. -/
def PutEnd (w : World) (B T : Nat) (rest : Array Value) (ns : List Nd) (r : Rw) (hgt : Int) (w' : World) : Prop :=
  ∃ g, w.heap.size ≤ g ∧ SL w' B T rest (insN ns (place (rs ns) r.key r.seq) ⟨g, r, clampH hgt⟩) ∧ Off (blks B ns) w w'

set_option maxRecDepth 100000 in
set_option maxHeartbeats 2000000 in
theorem put_new (w : World) (B T : Nat) (rest : Array Value) (ns : List Nd) (r : Rw) (hgt : Int) (h : SL w B T rest ns) (hlen : ns.length ≤ 4294967296)
    (hn : ∀ n, ns[place (rs ns) r.key r.seq]? = some n → at_ n.row r.key r.seq = false) (hw : 0 ≤ r.seq ∧ r.seq ≤ 18446744073709551615) (hg1 : -9223372036854775808 ≤ hgt) (hg2 : hgt ≤ 9223372036854775807) :
    Calls Try.prog 9 #[.pointer (some ⟨B, 0, none⟩), .agg #[.string r.key, .int .u64 r.seq, .int .i64 r.kind, .string r.val], .int .i64 hgt] w fun e w' =>
      e = .returned (.bool true) ∧ PutEnd w B T rest ns r hgt w' := by
  have hSL := h
  obtain ⟨e, he⟩ : ∃ e, place (rs ns) r.key r.seq = e := ⟨_, rfl⟩
  have hb0 : Below w.heap.size w (w.alloc (.cells #[.string r.key, .int .u64 r.seq, .int .i64 r.kind, .string r.val] 27)) := (Below.refl _ _).alloc (Nat.le_refl _) _
  have hs1 := search_any (w.alloc (.cells #[.string r.key, .int .u64 r.seq, .int .i64 r.kind, .string r.val] 27)) B T rest ns r.key r.seq (h.below hb0) hlen
  have hel : e ≤ ns.length := by have := place_le (rs ns) r.key r.seq; simp only [rs, List.length_map] at this he; omega
  rw [he] at hs1 hn
  obtain ⟨nxp, hnxp⟩ : ∃ x, (ns[e]?).map (fun n => (⟨n.blk, 0, none⟩ : Addr)) = x := ⟨_, rfl⟩
  have HE := Lib.hid he
  have HS1 := Lib.hid hs1
  have HN := Lib.hid hn
  have HNX := Lib.hid hnxp
  have HBE := Lib.hid (bef_zero B h.hgt hel)
  have HB0 := Lib.hid hb0
  have HR0 := Lib.hid (heap_alloc_new w (.cells (rowC r) 27))
  clear hs1 he hn hb0 hnxp
  go_enter Try.func9, Try.ntmps9
  go_wp2_with (first
    | (go_at_call 31; refine HS1.out.mono ?_; rintro e1 w1 ⟨rfl, hb1⟩)
    | (refine wpList_store_new rfl 29 _ _ rfl 29 ptr0 (bef B ns e 0) rfl rfl rfl Try.size29 (ptrs_one _) ?_; intro W hbW hA
       have hbe := HBE.out
       have hb2 : Below w.heap.size w W := below_step (below_step HB0.out hb1 (Nat.le_refl _)) hbW (Nat.le_refl _)
       have hc0 : W.cell? ⟨w1.heap.size, 0, none⟩ = some (.pointer (some ⟨blkAt B ns e, 0, none⟩)) := (cell_of hA 0).trans hbe
       have S2 := h.below hb2
       have hnx := S2.next hel
       rw [HNX.out] at hnx
       have HA := Lib.hid hA
       have HR := Lib.hid (heap_on hbW (heap_on hb1 HR0.out))
       have HW1 := Lib.hid (show w.heap.size ≤ w1.heap.size ∧ w1.heap.size ≠ W.heap.size from ⟨by have h1 := hb1.size; have h2 := HB0.out.size; omega, by have := (Array.getElem?_eq_some_iff.1 hA).1; omega⟩)
       clear hbe hA))
  go_cut [50] (fun s50 wx => s50 = .bool false ∧ ∃ nq, wx = W.drewN nq)
  case first =>
    have hx0 : W.cell? ⟨w.heap.size, 0, none⟩ = some (.string r.key) := cell_of HR.out 0
    have hx1 : W.cell? ⟨w.heap.size, 1, none⟩ = some (.int .u64 r.seq) := cell_of HR.out 1
    cases hq : ns[e]? with
    | none =>
      obtain rfl : nxp = none := by rw [← HNX.out, hq]; rfl
      clear hq
      go_quiet (fail)
      go_wp2
      go_meet
      exact ⟨rfl, _, rfl⟩
    | some n =>
      have hnat := HN.out n hq
      obtain rfl : nxp = some ⟨n.blk, 0, none⟩ := by rw [← HNX.out, hq]; rfl
      obtain ⟨hr0, hr1, hr2, hr3⟩ := S2.rowAt hq
      clear hq
      cases hk : (n.row.key.toList == r.key.toList) with
      | false =>
        clear hnat
        go_quiet (fail)
        go_wp2
        go_meet
        exact ⟨rfl, _, rfl⟩
      | true =>
        have hk2 : (n.row.seq == r.seq) = false := by simpa [at_, hk] using hnat
        clear hnat
        go_quiet (fail)
        go_wp2
        go_meet
        exact ⟨rfl, _, rfl⟩
  case rest =>
    obtain ⟨rfl, nq, rfl⟩ := hcut
    have hx0 : (W.drewN nq).cell? ⟨w.heap.size, 0, none⟩ = some (.string r.key) := cell_of HR.out 0
    have hx1 : (W.drewN nq).cell? ⟨w.heap.size, 1, none⟩ = some (.int .u64 r.seq) := cell_of HR.out 1
    have hx2 : (W.drewN nq).cell? ⟨w.heap.size, 2, none⟩ = some (.int .i64 r.kind) := cell_of HR.out 2
    have hx3 : (W.drewN nq).cell? ⟨w.heap.size, 3, none⟩ = some (.string r.val) := cell_of HR.out 3
    go_upto_region 7 with fail
    go_cut [2] (fun s2 wx => s2 = .int .i64 (clampH hgt : Nat) ∧ wx = W.drewN nq)
    case first =>
      by_cases h1 : hgt < 1
      · go_wp2
        go_meet
        exact ⟨congrArg (Value.int .i64) (by unfold clampH; omega), rfl⟩
      · by_cases h2 : 12 < hgt
        · go_wp2
          go_meet
          exact ⟨congrArg (Value.int .i64) (by unfold clampH; omega), rfl⟩
        · go_wp2
          go_meet
          exact ⟨congrArg (Value.int .i64) (by unfold clampH; omega), rfl⟩
    case rest =>
      obtain ⟨rfl, rfl⟩ := hcut
      obtain ⟨hh, hhe⟩ : ∃ hh, clampH hgt = hh := ⟨_, rfl⟩
      have hh1 := clampH_le hgt
      rw [hhe] at hh1 ⊢
      have HH := Lib.hid hhe
      clear hhe
      go_wp2
      go_loopw [58] (fun s58 wr => ∃ k : Nat, k ≤ hh ∧ s58 = .int .i64 k ∧ PutI w B T rest ns e ⟨W.heap.size, r, hh⟩ w1.heap.size k wr) (fun s58 _ => hh - (intOf s58).toNat)
      case atStart =>
        refine ⟨0, Nat.zero_le _, rfl, PutI.start h ((below_drewN hb2 nq).alloc hb2.size _) (heap_alloc_new _ _) ?_⟩
        exact (Below.heap_alloc _ _ _ (Array.getElem?_eq_some_iff.1 HA.out).1).trans HA.out
      case round =>
        obtain ⟨k, hk, rfl, hI⟩ := hrel
        by_cases hlt : k < hh
        · have hP := pos_le (hs ns) k e
          have hc := fin_char (H := hs ns) (i := k) (Nat.zero_le e)
          have ha : wr.cell? ⟨w1.heap.size, k, none⟩ = some (.pointer (some ⟨blkAt B ns (pos (hs ns) k e), 0, none⟩)) := by rw [cell_of hI.arr, bef, ptrs_get _ _ (by omega), if_pos (Nat.zero_le _)]
          obtain ⟨hp, hpf⟩ := hI.cellP hel (by omega)
          have hgc : wr.cell? ⟨W.heap.size, 4 + k, none⟩ = some (.pointer none) := by rw [cell_of hI.new, nodeC_link _ _ _ (by omega), if_neg (by omega)]
          have hgf : wr.frozen? ⟨W.heap.size, 4 + k, none⟩ = false := free_of hI.new _
          have hlt2 : blkAt B ns (pos (hs ns) k e) < w.heap.size := h.blk_lt (blkAt_in (by omega))
          have hz2 := hb2.size
          have hne : W.heap.size ≠ blkAt B ns (pos (hs ns) k e) := by omega
          have hstep := hI.step h hel (by omega) hlt hb2.size HW1.out.1 HW1.out.2
          have HI := Lib.hid hstep
          clear hI hc hstep
          go_wp2
          go_region
          go_wp2
          go_roundw
          case rel =>
            refine ⟨k + 1, by omega, by go_num, ?_⟩
            exact HI.out.drew
          case measure => simp [intOf]; omega
        · obtain rfl : k = hh := by omega
          have hl16 : wr.cell? ⟨B, 16, none⟩ = some (.int .i64 (ns.length : Int)) := by rw [cell_of hI.head, headC_len]
          have hl17 : wr.cell? ⟨B, 17, none⟩ = some (.int .i64 (mxh ns : Int)) := by rw [cell_of hI.head, headC_hgt]
          have hf16 : wr.frozen? ⟨B, 16, none⟩ = false := free_of hI.head _
          have hf17 : wr.frozen? ⟨B, 17, none⟩ = false := free_of hI.head _
          have HI := Lib.hid hI
          clear hI
          go_wp2
          · go_ret
            have hlt' : mxh ns < k := by assumption
            exact ⟨rfl, W.heap.size, hb2.size, by rw [HE.out, HH.out]; exact (PutI.done hSL hel HI.out hh1 hw hb2.size HE.out HN.out k (by show k = max _ k; omega))⟩
          · go_ret
            have hlt' : ¬ mxh ns < k := by assumption
            exact ⟨rfl, W.heap.size, hb2.size, by rw [HE.out, HH.out]; exact (PutI.done hSL hel HI.out hh1 hw hb2.size HE.out HN.out (mxh ns) (by show mxh ns = max _ k; omega))⟩

end Go.Proofs.Ythhdameaihclmaa
