/- The batches of MemAt's law in memory, and its three tables side by side. Conditions: none. -/
import Derived.Test.YthhdameaihclmaaMw
namespace Go.Proofs.Ythhdameaihclmaa
open Go.RowKit Sk

/-! ## the lists of writes that came in -/
structure Sl where
  a : Option Addr
  c : Nat
  ws : List Wr
def Wss (w : World) (A : Option Addr) (ls : List Sl) : Prop :=
  ls = [] ∨ ∃ g o, A = some ⟨g, o, none⟩ ∧ ∀ k x, ls[k]? = some x → w.cell? ⟨g, o + k, none⟩ = some (.slice x.a x.ws.length x.c) ∧ Wrs w x.a x.ws
theorem Wss.at {w : World} {A : Option Addr} {ls : List Sl} (h : Wss w A ls) {k : Nat} {x : Sl} (hk : ls[k]? = some x) : ∃ g o, A = some ⟨g, o, none⟩ ∧ w.cell? ⟨g, o + k, none⟩ = some (.slice x.a x.ws.length x.c) ∧ Wrs w x.a x.ws := by
  rcases h with rfl | ⟨g, o, e, h⟩
  · simp at hk
  · exact ⟨g, o, e, h k x hk⟩
theorem Wss.below {w w' : World} {A : Option Addr} {l : List Sl} (h : Wss w A l) (hb : Below w.heap.size w w') : Wss w' A l := by
  rcases h with h | ⟨g, o, e, h⟩
  · exact .inl h
  · exact .inr ⟨g, o, e, fun k x hk => ⟨cell_on hb (h k x hk).1, (h k x hk).2.below hb⟩⟩

/-- The batches, numbered from s on. -/
structure Bc where
  s : Int
  x : Sl
def bcs : Int → List Sl → List Bc
  | _, [] => []
  | s, x :: ls => ⟨s, x⟩ :: bcs (s + x.ws.length) ls
def btOf (b : Bc) : Bt := ⟨b.s, b.x.ws⟩
def bts (s : Int) (ls : List Sl) : List Bt := (bcs s ls).map btOf
theorem bcs_len (s : Int) (ls : List Sl) : (bcs s ls).length = ls.length := by
  induction ls generalizing s with
  | nil => rfl
  | cons x ls ih => simp [bcs, ih]
theorem bts_chain (s : Int) (ls : List Sl) : Chain s (bts s ls) := by
  induction ls generalizing s with
  | nil => trivial
  | cons x ls ih => exact ⟨rfl, ih _⟩
theorem bcs_take (s : Int) (ls : List Sl) (k : Nat) : bcs s (ls.take k) = (bcs s ls).take k := by
  induction ls generalizing s k with
  | nil => simp [bcs]
  | cons x ls ih =>
    cases k with
    | zero => simp [bcs]
    | succ k => simp [bcs, ih]
theorem bcs_get {s : Int} {ls : List Sl} {k : Nat} {x : Sl} (hk : ls[k]? = some x) : (bcs s ls)[k]? = some ⟨endSeq s (bts s (ls.take k)), x⟩ := by
  induction ls generalizing s k with
  | nil => simp at hk
  | cons y ls ih =>
    cases k with
    | zero => simp at hk; subst hk; simp [bcs, bts, endSeq]
    | succ k =>
      simp at hk
      simp only [bcs, List.getElem?_cons_succ, ih hk, List.take_succ_cons, bts, List.map_cons, endSeq, btOf]
theorem endSeq_snoc {s : Int} {bs : List Bt} {b : Bt} : endSeq s (bs ++ [b]) = endSeq s bs + b.ws.length := by
  rw [endSeq_append]; rfl
theorem take_one {α : Type} {l : List α} {k : Nat} {x : α} (h : l[k]? = some x) : l.take (k + 1) = l.take k ++ [x] := take_snoc' h

def bcL (b : Bc) : List Value := [.int .u64 b.s, .slice b.x.a b.x.ws.length b.x.c]
def bcC (b : Bc) : Array Value := #[.int .u64 b.s, .slice b.x.a b.x.ws.length b.x.c]
def flatB (l : List Bc) : List Value := l.flatMap bcL
theorem flatB_snoc (l : List Bc) (b : Bc) : flatB (l ++ [b]) = flatB l ++ bcL b := by simp [flatB]
theorem flatB_get (l : List Bc) (k j : Nat) (b : Bc) (hk : l[k]? = some b) (hj : j < 2) : (flatB l)[k * 2 + j]? = (bcL b)[j]? := by
  induction l generalizing k with
  | nil => simp at hk
  | cons y l ih =>
    have e : flatB (y :: l) = bcL y ++ flatB l := by simp [flatB]
    rw [e]
    cases k with
    | zero => simp at hk; subst hk; rw [Nat.zero_mul, Nat.zero_add, List.getElem?_append_left (by simp [bcL]; omega)]
    | succ k =>
      simp at hk
      rw [List.getElem?_append_right (by simp [bcL]; omega)]
      simp only [bcL, List.length_cons, List.length_nil]
      rw [show (k + 1) * 2 + j - (0 + 1 + 1) = k * 2 + j by omega]
      exact ih k hk
theorem Try.info59 : (Try.prog.info? 59).map (fun i => (i.zero, i.size, i.bytes)) = some (some (.agg #[.int .u64 0, .slice none 0 0]), 2, 32) := by kernel_rfl
theorem Try.size59 : (Try.prog.info? 59).map (·.size) = some 2 := by kernel_rfl
theorem bcC_one (b : Bc) : (bcC b).all (·.oneCell') = true := by simp [bcC, Value.oneCell']
theorem news_bc (W : World) (b : Bc) : ∀ j u, (bcL b)[j]? = some u → (W.alloc (.cells (bcC b) 59)).cell? ((⟨W.heap.size, 0, none⟩ : Addr).add j) = some u := fun j u hu => by
  have h := cell_of (heap_alloc_new W (.cells (bcC b) 59)) j
  rw [Addr.add_mid, Nat.zero_add, h]
  match j, hu with
  | 0, hu => exact hu
  | 1, hu => exact hu
  | j + 2, hu => simp [bcL] at hu
theorem wpList_append_bc {n₀ : Nat} {ops : Array Oper} {rest : List Oper} {o : Oper} {a : Act} {W : World} {Q : Exit → Act → World → Prop} (hgd : o.guard = none) (s x : Operand)
    (ho : o.op = .call { callee := .builtin .append, args := #[s, x], argTypes := #[56, 56] }) (v : Value) (l : List Bc) (r : Bc) (hs : a.eval s = v) (hx : a.eval x = .slice (some ⟨W.heap.size, 0, none⟩) 1 1)
    (hrow : W.ownsRow n₀ 59 2 v l.length (flatB l)) (hlen : l.length ≤ 8589934592) (hbase : n₀ ≤ W.heap.size)
    (h : ∀ g cap W2, W2.ownsRow n₀ 59 2 (.slice (some ⟨g, 0, none⟩) (l.length + 1) cap) (l ++ [r]).length (flatB (l ++ [r])) → (W.alloc (.cells (bcC r) 59)).grownBy W2 v.ownBlock →
      wpList Try.prog ops Q rest (a.put o.dst (.slice (some ⟨g, 0, none⟩) (l.length + 1) cap)) W2) : wpList Try.prog ops Q (o :: rest) a (W.alloc (.cells (bcC r) 59)) := by
  obtain ⟨i0, hi, hz0, hz1, hz2⟩ := info_parts Try.info59
  refine wpList_append_own _ hgd s x 56 ho n₀ 59 i0 (.agg #[.int .u64 0, .slice none 0 0]) 2 32 Try.underlying56 hi hz0 hz1 hz2 rfl (by decide) v l.length (flatB l) hs (hrow.alloc _) ⟨W.heap.size, 0, none⟩ 1 1 (bcL r) hx rfl (news_bc W r) ?_ ?_ ?_ ?_ ?_
  · intro u hu; simp only [bcL, List.mem_cons, List.not_mem_nil, or_false] at hu; rcases hu with rfl | rfl <;> rfl
  · simp only [maxLen]; omega
  · omega
  · simp; omega
  · intro v' w2 hown' hgrow _
    obtain ⟨g', cap', rfl⟩ := ownsRow_succ hown'
    exact h g' cap' w2 (by rw [List.length_append, flatB_snoc]; exact hown') hgrow
theorem bc_cell {w : World} {n₀ : Nat} {v : Value} {l : List Bc} (h : w.ownsRow n₀ 59 2 v l.length (flatB l)) : ∃ A c, v = .slice A l.length c ∧ ∀ k b, l[k]? = some b → ∃ g, A = some ⟨g, 0, none⟩ ∧ w.cell? ⟨g, k * 2, none⟩ = some (.int .u64 b.s) ∧ w.cell? ⟨g, k * 2 + 1, none⟩ = some (.slice b.x.a b.x.ws.length b.x.c) := by
  rcases h.2 with ⟨rfl, h0⟩ | ⟨g, cap, cur, rfl, _⟩
  · refine ⟨none, 0, by rw [h0], fun k b hk => ?_⟩
    have := List.eq_nil_of_length_eq_zero h0
    subst this
    simp at hk
  · refine ⟨_, cap, rfl, fun k b hk => ⟨g, rfl, ?_, ?_⟩⟩
    · have := h.cells (g := g) rfl _ _ (flatB_get l k 0 b hk (by omega)); rw [Addr.add_mid, Nat.zero_add] at this; simpa using this
    · have := h.cells (g := g) rfl _ _ (flatB_get l k 1 b hk (by omega)); rw [Addr.add_mid, Nat.zero_add] at this; simpa using this

/-! ## three tables side by side -/
/-- Tables one, two and back, with rows R1, R2 and R3; each of at most m batches; v: the slice of the batches. -/
structure T3 (w : World) (v : Value) (l : List Bc) (B1 B2 B3 : Nat) (R1 R2 R3 : List Rw) (m : Nat) (wr : World) : Prop where
  tabs : ∃ ns1 ns2 ns3 st1 st2 st3, TK w B1 R1 st1 ns1 wr ∧ TK w B2 R2 st2 ns2 wr ∧ TK w B3 R3 st3 ns3 wr ∧ (Sm st1 m ∧ Sm st2 m ∧ Sm st3 m) ∧
    (∀ b, blks B1 ns1 b → ¬ blks B2 ns2 b) ∧ (∀ b, blks B1 ns1 b → ¬ blks B3 ns3 b) ∧ (∀ b, blks B2 ns2 b → ¬ blks B3 ns3 b)
  own : wr.ownsRow w.heap.size 59 2 v l.length (flatB l)
  below : Below w.heap.size w wr
theorem T3.on {w wr W : World} {v : Value} {l : List Bc} {B1 B2 B3 : Nat} {R1 R2 R3 : List Rw} {m : Nat} (h : T3 w v l B1 B2 B3 R1 R2 R3 m wr) (hb : Below wr.heap.size wr W) : T3 w v l B1 B2 B3 R1 R2 R3 m W := by
  obtain ⟨ns1, ns2, ns3, st1, st2, st3, h1, h2, h3, hr⟩ := h.tabs
  exact ⟨⟨ns1, ns2, ns3, st1, st2, st3, h1.on hb, h2.on hb, h3.on hb, hr⟩, own_below h.own hb, below_step h.below hb (Nat.le_refl _)⟩
theorem Sm.up {st : St} {m : Nat} (h : Sm st m) : Sm st (m + 1) := ⟨h.1, by have := h.2; omega⟩
/-- A table that turned has still no block of another. -/
theorem grew_apart {wr : World} {B B' : Nat} {ns ns' nsO : List Nd} (hg : Grew wr B ns ns') (hd : ∀ b, blks B ns b → ¬ blks B' nsO b) (hlt : ∀ b, blks B' nsO b → b < wr.heap.size) : ∀ b, blks B ns' b → ¬ blks B' nsO b := fun b hb ho => by
  rcases hg b hb with hb | hb
  · exact hd b hb ho
  · exact absurd (hlt b ho) (by omega)
theorem apart_symm {B B' : Nat} {ns ns' : List Nd} (h : ∀ b, blks B ns b → ¬ blks B' ns' b) : ∀ b, blks B' ns' b → ¬ blks B ns b := fun b h1 h2 => h b h2 h1
section
variable {w wr : World} {v : Value} {l : List Bc} {B1 B2 B3 : Nat} {R1 R2 R3 : List Rw} {m : Nat}
theorem own_tab {w wr W : World} {B : Nat} {R : List Rw} {st : St} {ns : List Nd} {v : Value} {n n₀ : Nat} {xs : List Value} (h : TK w B R st ns wr) (ho : wr.ownsRow n₀ 59 2 v n xs) (hf : Off (blks B ns) wr W) : W.ownsRow n₀ 59 2 v n xs :=
  own_off ho hf fun g hg => by
    obtain ⟨cur, hc⟩ := own_at ho g hg
    exact SL.typ' h.tb hc (by decide) (by decide)
theorem T3.add1 (h : T3 w v l B1 B2 B3 R1 R2 R3 m wr) (hm : m ≤ 1048575) (hlen : R1.length ≤ 2147483648) (A : Option Addr) (c : Nat) (s : Int) (ws : List Wr) (hW : Wrs wr A ws) (hok : okB s ws = true) (hf : ∀ r ∈ R1, ∀ x ∈ rowsOf s ws, r.seq ≠ x.seq) :
    Calls Try.prog 24 #[.pointer (some ⟨B1, 0, none⟩), .agg #[.int .u64 s, .slice A ws.length c], .slice none 0 0] wr fun e W => e = .returned (.int .i64 0) ∧ T3 w v l B1 B2 B3 (R1 ++ rowsOf s ws) R2 R3 (m + 1) W := by
  obtain ⟨ns1, ns2, ns3, st1, st2, st3, h1, h2, h3, ⟨m1, m2, m3⟩, d12, d13, d23⟩ := h.tabs
  refine (add_tk h1 h.below m1 (by omega) A c s ws none 0 [] hlen hW hok hf (fun _ _ => .inl rfl) (fun x hx => by cases hx) (by simp)).mono ?_
  rintro e W ⟨rfl, ns', k1, k2, k3, k4⟩
  exact ⟨rfl, ⟨ns', ns2, ns3, _, st2, st3, k1, h2.off k3 (apart_symm d12), h3.off k3 (apart_symm d13), ⟨m1.add hok, m2.up, m3.up⟩, grew_apart k2 d12 (fun b hb => SL.lt h2.tb hb), grew_apart k2 d13 (fun b hb => SL.lt h3.tb hb), d23⟩, own_tab h1 h.own k3, k4⟩
theorem T3.swap12 (h : T3 w v l B1 B2 B3 R1 R2 R3 m wr) : T3 w v l B2 B1 B3 R2 R1 R3 m wr := by
  obtain ⟨ns1, ns2, ns3, st1, st2, st3, h1, h2, h3, ⟨m1, m2, m3⟩, d12, d13, d23⟩ := h.tabs
  exact ⟨⟨ns2, ns1, ns3, st2, st1, st3, h2, h1, h3, ⟨m2, m1, m3⟩, apart_symm d12, d23, d13⟩, h.own, h.below⟩
theorem T3.swap13 (h : T3 w v l B1 B2 B3 R1 R2 R3 m wr) : T3 w v l B3 B2 B1 R3 R2 R1 m wr := by
  obtain ⟨ns1, ns2, ns3, st1, st2, st3, h1, h2, h3, ⟨m1, m2, m3⟩, d12, d13, d23⟩ := h.tabs
  exact ⟨⟨ns3, ns2, ns1, st3, st2, st1, h3, h2, h1, ⟨m3, m2, m1⟩, apart_symm d23, apart_symm d13, apart_symm d12⟩, h.own, h.below⟩
theorem T3.add2 (h : T3 w v l B1 B2 B3 R1 R2 R3 m wr) (hm : m ≤ 1048575) (hlen : R2.length ≤ 2147483648) (A : Option Addr) (c : Nat) (s : Int) (ws : List Wr) (hW : Wrs wr A ws) (hok : okB s ws = true) (hf : ∀ r ∈ R2, ∀ x ∈ rowsOf s ws, r.seq ≠ x.seq) :
    Calls Try.prog 24 #[.pointer (some ⟨B2, 0, none⟩), .agg #[.int .u64 s, .slice A ws.length c], .slice none 0 0] wr fun e W => e = .returned (.int .i64 0) ∧ T3 w v l B1 B2 B3 R1 (R2 ++ rowsOf s ws) R3 (m + 1) W :=
  (h.swap12.add1 hm hlen A c s ws hW hok hf).mono fun _ _ ⟨h1, h2⟩ => ⟨h1, h2.swap12⟩
theorem T3.add3 (h : T3 w v l B1 B2 B3 R1 R2 R3 m wr) (hm : m ≤ 1048575) (hlen : R3.length ≤ 2147483648) (A : Option Addr) (c : Nat) (s : Int) (ws : List Wr) (hW : Wrs wr A ws) (hok : okB s ws = true) (hf : ∀ r ∈ R3, ∀ x ∈ rowsOf s ws, r.seq ≠ x.seq) :
    Calls Try.prog 24 #[.pointer (some ⟨B3, 0, none⟩), .agg #[.int .u64 s, .slice A ws.length c], .slice none 0 0] wr fun e W => e = .returned (.int .i64 0) ∧ T3 w v l B1 B2 B3 R1 R2 (R3 ++ rowsOf s ws) (m + 1) W :=
  (h.swap13.add1 hm hlen A c s ws hW hok hf).mono fun _ _ ⟨h1, h2⟩ => ⟨h1, h2.swap13⟩
end
end Go.Proofs.Ythhdameaihclmaa
