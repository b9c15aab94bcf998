/- Put of the reference: a row more at its place, in new memory. Condition: at most 2^32 rows. -/
import Derived.Test.YthhdameaihclmaaCo
import Derived.Deep.RegionHeld3
import Derived.Deep.DrawnRows
namespace Go.Proofs.Ythhdameaihclmaa
open Go.RowKit Sk

theorem Try.info3 : (Try.prog.info? 3).map (fun i => (i.zero, i.size, i.bytes)) = some (some (.int .i64 0), 1, 8) := by kernel_rfl
def flatI (l : List Nat) : List Value := l.map (fun (x : Nat) => .int .i64 (x : Int))
theorem flatI_snoc (l : List Nat) (x : Nat) : flatI (l ++ [x]) = flatI l ++ [.int .i64 (x : Int)] := by simp [flatI]
theorem ints_of_own {w : World} {n₀ n : Nat} {v : Value} {l : List Nat} (h : w.ownsRow n₀ 3 1 v n (flatI l)) (hn : n = l.length) : ∃ A c, v = .slice A l.length c ∧ Ints_ w A (ints l) := by
  subst hn
  rcases h.2 with ⟨rfl, h0⟩ | ⟨g, cap, cur, rfl, _⟩
  · exact ⟨none, 0, by rw [h0], .inl (by rw [List.eq_nil_of_length_eq_zero h0]; rfl)⟩
  · refine ⟨_, cap, rfl, .inr ⟨g, 0, rfl, fun k x hk => ?_⟩⟩
    have hc := h.cells (g := g) rfl k (.int .i64 x) (by
      simp only [ints, List.getElem?_map, Option.map_eq_some_iff] at hk
      obtain ⟨y, hy, rfl⟩ := hk
      simp [flatI, hy])
    rwa [Addr.add_mid] at hc
theorem own_ne {w : World} {b b' e e' sz sz' n n' : Nat} {v v' : Value} {xs xs' : List Value} (h : w.ownsRow b e sz v n xs) (h' : w.ownsRow b' e' sz' v' n' xs') (hne : e ≠ e') : v.ownBlock = none ∨ v.ownBlock ≠ v'.ownBlock := by
  rcases h.2 with ⟨rfl, _⟩ | ⟨g, cap, cur, rfl, _, hg, _⟩
  · exact .inl rfl
  · refine .inr fun e1 => ?_
    rcases h'.2 with ⟨rfl, _⟩ | ⟨g', cap', cur', rfl, _, hg', _⟩
    · simp [Value.ownBlock] at e1
    · obtain rfl : g = g' := by simpa [Value.ownBlock] using e1
      rw [hg] at hg'
      injection hg' with hg'
      injection hg' with _ h2
      exact hne h2
theorem own_ge {w : World} {b e sz n : Nat} {v : Value} {xs : List Value} (h : w.ownsRow b e sz v n xs) (k : Nat) (hk : v.ownBlock = some k) : b ≤ k := by
  rcases h.2 with ⟨rfl, _⟩ | ⟨g, cap, cur, rfl, hb, _⟩
  · simp [Value.ownBlock] at hk
  · obtain rfl : g = k := by simpa [Value.ownBlock] using hk
    exact hb

theorem wpList_append_row {n₀ : Nat} {ops : Array Oper} {rest : List Oper} {o : Oper} {a : Act} {W : World} {Q : Exit → Act → World → Prop} (hgd : o.guard = none) (s x : Operand)
    (ho : o.op = .call { callee := .builtin .append, args := #[s, x], argTypes := #[34, 34] }) (v : Value) (l : List Rw) (r : Rw) (hs : a.eval s = v) (hx : a.eval x = .slice (some ⟨W.heap.size, 0, none⟩) 1 1)
    (hrow : W.ownsRow n₀ 27 4 v l.length (flat l)) (hlen : l.length ≤ 8589934592) (hbase : n₀ ≤ W.heap.size)
    (h : ∀ g cap W2, W2.ownsRow n₀ 27 4 (.slice (some ⟨g, 0, none⟩) (l.length + 1) cap) (l ++ [r]).length (flat (l ++ [r])) → (W.alloc (.cells (rowC r) 27)).grownBy W2 v.ownBlock →
      wpList Try.prog ops Q rest (a.put o.dst (.slice (some ⟨g, 0, none⟩) (l.length + 1) cap)) W2) : wpList Try.prog ops Q (o :: rest) a (W.alloc (.cells (rowC r) 27)) := by
  obtain ⟨i0, hi, hz0, hz1, hz2⟩ := info_parts Try.info27
  refine wpList_append_own _ hgd s x 34 ho n₀ 27 i0 (.agg zeroRow) 4 48 Try.underlying34 hi hz0 hz1 hz2 rfl (by decide) v l.length (flat l) hs (hrow.alloc _) ⟨W.heap.size, 0, none⟩ 1 1 (rowL r) hx rfl (news_row W r) ?_ ?_ ?_ ?_ ?_
  · intro u hu; simp only [rowL, List.mem_cons, List.not_mem_nil, or_false] at hu; rcases hu with rfl | rfl | rfl | rfl <;> rfl
  · simp only [maxLen]; omega
  · omega
  · simp; omega
  · intro v' w2 hown' hgrow _
    obtain ⟨g', cap', rfl⟩ := ownsRow_succ hown'
    exact h g' cap' w2 (by rw [List.length_append, flat_snoc]; exact hown') hgrow
theorem wpList_append_int {n₀ : Nat} {ops : Array Oper} {rest : List Oper} {o : Oper} {a : Act} {W : World} {Q : Exit → Act → World → Prop} (hgd : o.guard = none) (s x : Operand)
    (ho : o.op = .call { callee := .builtin .append, args := #[s, x], argTypes := #[35, 35] }) (v : Value) (l : List Nat) (r : Nat) (hs : a.eval s = v) (hx : a.eval x = .slice (some ⟨W.heap.size, 0, none⟩) 1 1)
    (hrow : W.ownsRow n₀ 3 1 v l.length (flatI l)) (hlen : l.length ≤ 8589934592) (hbase : n₀ ≤ W.heap.size)
    (h : ∀ g cap W2, W2.ownsRow n₀ 3 1 (.slice (some ⟨g, 0, none⟩) (l.length + 1) cap) (l ++ [r]).length (flatI (l ++ [r])) → (W.alloc (.cells #[.int .i64 (r : Int)] 3)).grownBy W2 v.ownBlock →
      wpList Try.prog ops Q rest (a.put o.dst (.slice (some ⟨g, 0, none⟩) (l.length + 1) cap)) W2) : wpList Try.prog ops Q (o :: rest) a (W.alloc (.cells #[.int .i64 (r : Int)] 3)) := by
  obtain ⟨i0, hi, hz0, hz1, hz2⟩ := info_parts Try.info3
  refine wpList_append_own _ hgd s x 35 ho n₀ 3 i0 (.int .i64 0) 1 8 Try.underlying35 hi hz0 hz1 hz2 rfl (by decide) v l.length (flatI l) hs (hrow.alloc _) ⟨W.heap.size, 0, none⟩ 1 1 [.int .i64 (r : Int)] hx rfl (cell_one_new _ _ _) ?_ ?_ ?_ ?_ ?_
  · intro u hu; simp only [List.mem_cons, List.not_mem_nil, or_false] at hu; subst hu; rfl
  · simp only [maxLen]; omega
  · omega
  · simp; omega
  · intro v' w2 hown' hgrow _
    obtain ⟨g', cap', rfl⟩ := ownsRow_succ hown'
    exact h g' cap' w2 (by rw [List.length_append, flatI_snoc]; exact hown') hgrow

/-- What a round of 'Put' reads. -/
structure PSrc (b4 b : Nat) (A A' : Option Addr) (n c c' : Nat) (r : Rw) (w : World) : Prop where
  f0 : w.cell? ⟨b4, 0, none⟩ = some (.slice A n c)
  f1 : w.cell? ⟨b4, 1, none⟩ = some (.slice A' n c')
  x0 : w.cell? ⟨b, 0, none⟩ = some (.string r.key)
  x1 : w.cell? ⟨b, 1, none⟩ = some (.int .u64 r.seq)
  x2 : w.cell? ⟨b, 2, none⟩ = some (.int .i64 r.kind)
  x3 : w.cell? ⟨b, 3, none⟩ = some (.string r.val)
theorem PSrc.below {b4 b : Nat} {A A' : Option Addr} {n c c' : Nat} {r : Rw} {w w' : World} (h : PSrc b4 b A A' n c c' r w) (hb : Below w.heap.size w w') : PSrc b4 b A A' n c c' r w' :=
  ⟨cell_on hb h.f0, cell_on hb h.f1, cell_on hb h.x0, cell_on hb h.x1, cell_on hb h.x2, cell_on hb h.x3⟩
def insH (l : List Nat) (e : Nat) (x : Nat) : List Nat := l.take e ++ x :: l.drop e
theorem below_append {n₀ : Nat} {a W W2 : World} {v : Value} {o : Obj} {e sz n : Nat} {xs : List Value} (hb : Below n₀ a W) (hrow : W.ownsRow n₀ e sz v n xs) (hn : n₀ ≤ W.heap.size) (hg : (W.alloc o).grownBy W2 v.ownBlock) : Below n₀ a W2 :=
  (hb.alloc hn o).grown hg (by simp; omega) (fun k hk => own_ge hrow k hk)

set_option maxRecDepth 100000 in
set_option maxHeartbeats 2000000 in
theorem putR_there (w : World) (b4 : Nat) (A A' : Option Addr) (c c' : Nat) (l : List Rw) (r : Rw) (hgt : Int) (hc : w.heap[b4]? = some (.cells #[.slice A l.length c, .slice A' l.length c'] 37 (0, 0))) (h : Rows_ w A l) (hlen : l.length ≤ 4294967296)
    (ht : thereB l r.key r.seq = true) :
    Calls Try.prog 10 #[.pointer (some ⟨b4, 0, none⟩), .agg #[.string r.key, .int .u64 r.seq, .int .i64 r.kind, .string r.val], .int .i64 hgt] w fun e w' => e = .returned (.bool false) ∧ Below w.heap.size w w' := by
  have hb0 : Below w.heap.size w (w.alloc (.cells (rowC r) 27)) := (Below.refl _ _).alloc (Nat.le_refl _) _
  have f0 : w.cell? ⟨b4, 0, none⟩ = some (.slice A l.length c) := cell_of hc 0
  have x0 : (w.alloc (.cells (rowC r) 27)).cell? ⟨w.heap.size, 0, none⟩ = some (.string r.key) := cell_of (heap_alloc_new _ _) 0
  have x1 : (w.alloc (.cells (rowC r) 27)).cell? ⟨w.heap.size, 1, none⟩ = some (.int .u64 r.seq) := cell_of (heap_alloc_new _ _) 1
  have f0' := cell_on hb0 f0
  have HC : ∀ W, Below w.heap.size w W → Calls Try.prog 32 #[.slice A l.length c, .string r.key, .int .u64 r.seq] W fun e w' => e = .returned (.bool true) ∧ Below W.heap.size W w' := fun W hW => by
    have := there_any W A c l r.key r.seq (h.below hW) hlen
    rwa [ht] at this
  have HC := Lib.hid HC
  have HB := Lib.hid hb0
  have HT := Lib.hid ht
  clear hb0 hc ht
  go_enter Try.func10, Try.ntmps10
  go_wp2
  go_region_held3 (fun w' => w'.cell? ⟨b4, 0, none⟩ = some (.slice A l.length c) ∧ w'.cell? ⟨w.heap.size, 0, none⟩ = some (.string r.key) ∧ w'.cell? ⟨w.heap.size, 1, none⟩ = some (.int .u64 r.seq)) (first | go_keep | exact ⟨cell_on hb1 f0', cell_on hb1 x0, cell_on hb1 x1⟩)
    (first | (go_at_call 32; refine (HC.out _ (by exact HB.out.drew)).mono ?_; rintro e1 w1 ⟨rfl, hb1⟩))
  go_wp2
  go_ret
  exact ⟨rfl, below_step HB.out.drew hb1 (Nat.le_refl _)⟩

/-- What 'Put' of the document leaves. -/
def PutREnd (w : World) (b4 : Nat) (l : List Rw) (hl : List Nat) (e : Nat) (r : Rw) (x : Nat) (w' : World) : Prop :=
  ∃ vR vH, w'.heap[b4]? = some (.cells #[vR, vH] 37 (0, 0)) ∧ w'.ownsRow w.heap.size 27 4 vR (l.length + 1) (flat (ins l e r)) ∧ w'.ownsRow w.heap.size 3 1 vH (l.length + 1) (flatI (insH hl e x)) ∧ Off (· = b4) w w'
/-- How many of the new list's elements stand behind k rounds. -/
def mm (e k : Nat) : Nat := if e < k then k + 1 else k

theorem insL_get {α : Type} (l : List α) (e : Nat) (m : α) (he : e ≤ l.length) (q : Nat) : (l.take e ++ m :: l.drop e)[q]? = if q < e then l[q]? else if q = e then some m else l[q - 1]? := by
  by_cases h1 : q < e
  · rw [if_pos h1, List.getElem?_append_left (by simp; omega), List.getElem?_take_of_lt h1]
  · rw [if_neg h1, List.getElem?_append_right (by simp; omega), List.length_take, Nat.min_eq_left he]
    by_cases h2 : q = e
    · rw [if_pos h2, h2, Nat.sub_self]; rfl
    · obtain ⟨d, hd⟩ : ∃ d, q - e = d + 1 := ⟨q - e - 1, by omega⟩
      rw [if_neg h2, hd, List.getElem?_cons_succ, List.getElem?_drop]
      congr 1; omega
theorem take_step {α : Type} (l : List α) (m : Nat) (x : α) (h : l[m]? = some x) : l.take (m + 1) = l.take m ++ [x] := by
  obtain ⟨hm, hx⟩ := List.getElem?_eq_some_iff.1 h
  rw [List.take_succ_eq_append_getElem hm, hx]
theorem insL_step {α : Type} (l : List α) (e : Nat) (m : α) (he : e ≤ l.length) (k : Nat) (x : α) (hk : l[k]? = some x) (hne : k ≠ e) :
    (l.take e ++ m :: l.drop e).take (mm e (k + 1)) = (l.take e ++ m :: l.drop e).take (mm e k) ++ [x] := by
  have e1 : mm e (k + 1) = mm e k + 1 := by unfold mm; by_cases h : e < k; rw [if_pos h, if_pos (by omega)]; rw [if_neg h, if_neg (by omega)]
  rw [e1, take_step _ _ x]
  rw [insL_get l e m he]
  unfold mm
  by_cases h : e < k
  · rw [if_pos h, if_neg (by omega), if_neg (by omega)]; exact hk
  · rw [if_neg h, if_pos (by omega)]; exact hk
theorem insL_step_e {α : Type} (l : List α) (e : Nat) (m : α) (x : α) (hk : l[e]? = some x) :
    (l.take e ++ m :: l.drop e).take (mm e (e + 1)) = (l.take e ++ m :: l.drop e).take (mm e e) ++ [m] ++ [x] := by
  have he : e ≤ l.length := Nat.le_of_lt (List.getElem?_eq_some_iff.1 hk).1
  have e1 : mm e (e + 1) = (e + 1) + 1 := by unfold mm; rw [if_pos (by omega)]
  have e2 : mm e e = e := by unfold mm; rw [if_neg (by omega)]
  rw [e1, e2, take_step _ _ x, take_step _ _ m]
  · rw [insL_get l e m he, if_neg (by omega), if_pos rfl]
  · rw [insL_get l e m he, if_neg (by omega), if_neg (by omega)]; exact hk
theorem insL_end {α : Type} (l : List α) (e : Nat) (m : α) (he : e ≤ l.length) : (e < l.length → (l.take e ++ m :: l.drop e).take (mm e l.length) = l.take e ++ m :: l.drop e) ∧
    (e = l.length → (l.take e ++ m :: l.drop e).take (mm e l.length) ++ [m] = l.take e ++ m :: l.drop e) := by
  refine ⟨fun h => ?_, fun h => ?_⟩
  · unfold mm; rw [if_pos h]; exact List.take_of_length_le (by simp; omega)
  · subst h; unfold mm; rw [if_neg (by omega)]; simp
theorem insL_len {α : Type} (l : List α) (e : Nat) (m : α) (he : e ≤ l.length) (k : Nat) (hk : k ≤ l.length) : ((l.take e ++ m :: l.drop e).take (mm e k)).length = mm e k := by
  rw [List.length_take]
  have : (l.take e ++ m :: l.drop e).length = l.length + 1 := by simp; omega
  unfold mm
  split <;> omega
theorem mm_zero (e : Nat) : mm e 0 = 0 := by unfold mm; rw [if_neg (by omega)]
structure PutR (w0 : World) (l : List Rw) (hl : List Nat) (e : Nat) (r : Rw) (x : Nat) (v9 v10 v11 : Value) (k : Nat) (wr : World) : Prop where
  i : v11 = .int .i64 (k : Int)
  kl : k ≤ l.length
  rows : wr.ownsRow w0.heap.size 27 4 v9 ((ins l e r).take (mm e k)).length (flat ((ins l e r).take (mm e k)))
  hts : wr.ownsRow w0.heap.size 3 1 v10 ((insH hl e x).take (mm e k)).length (flatI ((insH hl e x).take (mm e k)))
  below : Below w0.heap.size w0 wr

theorem own_setCell {w : World} {n₀ e sz n : Nat} {v : Value} {xs : List Value} (h : w.ownsRow n₀ e sz v n xs) {p : Addr} (hp : p.block < n₀) (u : Value) : (w.setCell p u).ownsRow n₀ e sz v n xs :=
  h.kept (row := some p.block) ⟨rfl, rfl, rfl, by simp [World.setCell], fun k _ hk => Below.heap_setCell _ _ _ k (fun e1 => hk (by rw [e1]))⟩ (.inr fun e1 => by have := own_ge h _ e1; omega)
theorem own_mono {w : World} {n₀ n₁ e sz n : Nat} {v : Value} {xs : List Value} (h : w.ownsRow n₀ e sz v n xs) (hn : n₁ ≤ n₀) : w.ownsRow n₁ e sz v n xs :=
  ⟨h.1, h.2.elim .inl fun ⟨g, cap, cur, a1, a2, a3⟩ => .inr ⟨g, cap, cur, a1, Nat.le_trans hn a2, a3⟩⟩
theorem putR_fin {w w0 W : World} {b4 : Nat} {l : List Rw} {hl : List Nat} {e : Nat} {r : Rw} {x : Nat} {vR vH : Value} {a b : Value} (hc : w.heap[b4]? = some (.cells #[a, b] 37 (0, 0))) (hb0 : Below w.heap.size w w0) (hz : w.heap.size ≤ w0.heap.size)
    (hW : Below w0.heap.size w0 W) (o1 : W.ownsRow w0.heap.size 27 4 vR (l.length + 1) (flat (ins l e r))) (o2 : W.ownsRow w0.heap.size 3 1 vH (l.length + 1) (flatI (insH hl e x))) :
    PutREnd w b4 l hl e r x ((W.setCell ⟨b4, 0, none⟩ vR).setCell ⟨b4, 1, none⟩ vH) := by
  have hbB : b4 < w.heap.size := (Array.getElem?_eq_some_iff.1 hc).1
  have hh : W.heap[b4]? = some (.cells #[a, b] 37 (0, 0)) := (hW.block b4 (by omega)).trans ((hb0.block b4 hbB).trans hc)
  have h1 := heap_setCell_same W b4 0 _ 37 vR hh
  have h2 := heap_setCell_same (W.setCell ⟨b4, 0, none⟩ vR) b4 1 _ 37 vH h1
  have hOff : Off (fun x => x = b4) w ((W.setCell ⟨b4, 0, none⟩ vR).setCell ⟨b4, 1, none⟩ vH) :=
    ((Off.of_below (S := fun x => x = b4) (below_step hb0 hW (Nat.le_refl _))).setCell (p := ⟨b4, 0, none⟩) (.inl rfl) vR).setCell (p := ⟨b4, 1, none⟩) (.inl rfl) vH
  exact ⟨vR, vH, h2, own_mono (own_setCell (own_setCell o1 (p := ⟨b4, 0, none⟩) (by show b4 < _; omega) vR) (p := ⟨b4, 1, none⟩) (by show b4 < _; omega) vH) hz,
    own_mono (own_setCell (own_setCell o2 (p := ⟨b4, 0, none⟩) (by show b4 < _; omega) vR) (p := ⟨b4, 1, none⟩) (by show b4 < _; omega) vH) hz, hOff⟩

set_option maxRecDepth 100000 in
set_option maxHeartbeats 4000000 in
theorem putR_new (w : World) (b4 : Nat) (A A' : Option Addr) (c c' : Nat) (l : List Rw) (hl : List Nat) (r : Rw) (hgt : Int) (hc : w.heap[b4]? = some (.cells #[.slice A l.length c, .slice A' l.length c'] 37 (0, 0))) (h : Rows_ w A l) (h' : Ints_ w A' (ints hl)) (hll : hl.length = l.length) (hlen : l.length ≤ 4294967296)
    (ht : thereB l r.key r.seq = false) (hg1 : -9223372036854775808 ≤ hgt) (hg2 : hgt ≤ 9223372036854775807) :
    Calls Try.prog 10 #[.pointer (some ⟨b4, 0, none⟩), .agg #[.string r.key, .int .u64 r.seq, .int .i64 r.kind, .string r.val], .int .i64 hgt] w fun e' w' => e' = .returned (.bool true) ∧ PutREnd w b4 l hl (place l r.key r.seq) r (clampH hgt) w' := by
  have hb0 : Below w.heap.size w (w.alloc (.cells (rowC r) 27)) := (Below.refl _ _).alloc (Nat.le_refl _) _
  have f0 : w.cell? ⟨b4, 0, none⟩ = some (.slice A l.length c) := cell_of hc 0
  have x0 : (w.alloc (.cells (rowC r) 27)).cell? ⟨w.heap.size, 0, none⟩ = some (.string r.key) := cell_of (heap_alloc_new _ _) 0
  have x1 : (w.alloc (.cells (rowC r) 27)).cell? ⟨w.heap.size, 1, none⟩ = some (.int .u64 r.seq) := cell_of (heap_alloc_new _ _) 1
  have HSR : PSrc b4 w.heap.size A A' l.length c c' r (w.alloc (.cells (rowC r) 27)) := ⟨cell_on hb0 (cell_of hc 0), cell_on hb0 (cell_of hc 1), cell_of (heap_alloc_new _ _) 0, cell_of (heap_alloc_new _ _) 1, cell_of (heap_alloc_new _ _) 2, cell_of (heap_alloc_new _ _) 3⟩
  have f0' := cell_on hb0 f0
  have HC : ∀ W, Below w.heap.size w W → Calls Try.prog 32 #[.slice A l.length c, .string r.key, .int .u64 r.seq] W fun e w' => e = .returned (.bool false) ∧ Below W.heap.size W w' := fun W hW => by
    have := there_any W A c l r.key r.seq (h.below hW) hlen
    rwa [ht] at this
  obtain ⟨e, he⟩ : ∃ e, place l r.key r.seq = e := ⟨_, rfl⟩
  have hel : e ≤ l.length := by have := place_le l r.key r.seq; omega
  have HPl : ∀ W, Below w.heap.size w W → Calls Try.prog 8 #[.slice A l.length c, .string r.key, .int .u64 r.seq] W fun e' w' => e' = .returned (.int .i64 (e : Int)) ∧ Below W.heap.size W w' := fun W hW => by
    have := place_any W A c l r.key r.seq (h.below hW) hlen
    rwa [he] at this
  rw [he]
  have HC := Lib.hid HC
  have HPl := Lib.hid HPl
  have HB := Lib.hid hb0
  have HCC := Lib.hid hc
  have HLL := Lib.hid hll
  clear hb0 hc ht he hll
  go_enter Try.func10, Try.ntmps10
  go_wp2
  go_region_held3 (fun w' => w'.cell? ⟨b4, 0, none⟩ = some (.slice A l.length c) ∧ w'.cell? ⟨w.heap.size, 0, none⟩ = some (.string r.key) ∧ w'.cell? ⟨w.heap.size, 1, none⟩ = some (.int .u64 r.seq)) (first | go_keep | exact ⟨cell_on hb1 f0', cell_on hb1 x0, cell_on hb1 x1⟩)
    (first | (go_at_call 32; refine (HC.out _ (by exact HB.out.drew)).mono ?_; rintro e1 w1 ⟨rfl, hb1⟩))
  have f01 := cell_on hb1 f0'
  have x01 := cell_on hb1 x0
  have x11 := cell_on hb1 x1
  have hbw1 : Below w.heap.size w w1 := below_step HB.out.drew hb1 (Nat.le_refl _)
  go_wp2
  go_region_held3 (fun w' => w'.cell? ⟨b4, 0, none⟩ = some (.slice A l.length c) ∧ w'.cell? ⟨w.heap.size, 0, none⟩ = some (.string r.key) ∧ w'.cell? ⟨w.heap.size, 1, none⟩ = some (.int .u64 r.seq)) (first | go_keep | exact ⟨cell_on hb2 f01, cell_on hb2 x01, cell_on hb2 x11⟩)
    (first | (go_at_call 8; refine (HPl.out _ (by exact hbw1.drew)).mono ?_; rintro e2 w2 ⟨rfl, hb2⟩))
  go_upto_if 32 with fail
  go_cut [8] (fun s8 wx => s8 = .int .i64 (max hgt 1) ∧ w2 = wx)
  case first =>
    by_cases hx : hgt < 1
    · go_wp2
      go_meet
      exact ⟨congrArg (Value.int .i64) (by omega), rfl⟩
    · go_wp2
      go_meet
      exact ⟨congrArg (Value.int .i64) (by omega), rfl⟩
  case rest =>
    obtain ⟨rfl, rfl⟩ := hcut
    go_upto_if 34 with fail
    go_cut [8] (fun s8 wx => s8 = .int .i64 (clampH hgt : Nat) ∧ w2 = wx)
    case first =>
      by_cases hx : 12 < max hgt 1
      · go_wp2
        go_meet
        exact ⟨congrArg (Value.int .i64) (by unfold clampH; omega), rfl⟩
      · go_wp2
        go_meet
        exact ⟨congrArg (Value.int .i64) (by unfold clampH; omega), rfl⟩
    case rest =>
      obtain ⟨rfl, rfl⟩ := hcut
      have hx1 := clampH_le hgt
      obtain ⟨x, hx⟩ : ∃ x, clampH hgt = x := ⟨_, rfl⟩
      rw [hx] at hx1 ⊢
      have HX := Lib.hid hx
      clear hx
      obtain ⟨w0, hw0⟩ : ∃ w0, w.alloc (.cells (rowC r) 27) = w0 := ⟨_, rfl⟩
      have hb02 : Below w0.heap.size w0 w2 := by rw [← hw0]; exact below_step (below_step (Below.refl _ _).drew hb1 (Nat.le_refl _)) ((Below.refl _ _).drew.trans hb2) (Nat.le_refl _)
      have hbw0 : Below w.heap.size w w0 := by rw [← hw0]; exact HB.out
      have hz0 : w0.heap.size = w.heap.size + 1 := by rw [← hw0]; simp
      rw [hw0] at HSR
      have HR0 : Rows_ w0 A l := h.below hbw0
      have HI0 : Ints_ w0 A' (ints hl) := h'.below hbw0
      have HB0 := Lib.hid hbw0
      have HZ0 := Lib.hid hz0
      clear hw0 hbw0 hz0
      go_wp2
      go_loopw [9, 10, 11] (fun v9 v10 v11 wr => ∃ k : Nat, PutR w0 l hl e r x v9 v10 v11 k wr) (fun _ _ i _ => l.length - (intOf i).toNat)
      case atStart =>
        refine ⟨0, rfl, Nat.zero_le _, ?_, ?_, hb02⟩
        · rw [mm_zero]; exact World.ownsRow_nil _ _ _ _
        · rw [mm_zero]; exact World.ownsRow_nil _ _ _ _
      case round =>
        obtain ⟨k, rfl, hkl, hrows, hhts, hb⟩ := hrel
        have SRC := Lib.hid (HSR.below hb)
        obtain ⟨f0, f1, x0, x1, x2, x3⟩ := SRC.out
        have hhl := HLL.out
        by_cases hlt : k < l.length
        · have hq : l[k]? = some l[k] := List.getElem?_eq_getElem hlt
          have hq' := ints_get hl k (by omega)
          have hqh : hl[k]? = some (hl[k]'(by omega)) := List.getElem?_eq_getElem (by omega)
          obtain ⟨rk, hrk⟩ : ∃ rk, l[k] = rk := ⟨_, rfl⟩
          obtain ⟨xk, hxk⟩ : ∃ xk, hl[k]'(by omega) = xk := ⟨_, rfl⟩
          rw [hrk] at hq
          rw [hxk] at hq' hqh
          obtain ⟨g, o, hA, p0, p1, p2, p3⟩ := HR0.at hq
          obtain ⟨g', o', hA', z00⟩ := HI0.at hq'
          subst hA hA'
          have q0 := cell_on hb p0
          have q1 := cell_on hb p1
          have q2 := cell_on hb p2
          have q3 := cell_on hb p3
          have z0 := cell_on hb z00
          have HQ := Lib.hid hq
          have HQH := Lib.hid hqh
          clear hrk hxk hq hq' hqh hhl
          have hl1 := insL_len l e r hel k hkl
          have hl2 := insL_len hl e x (by have := HLL.out; omega) k (by have := HLL.out; omega)
          have hmk : mm e k ≤ k + 1 := by unfold mm; split <;> omega
          have hins9 := fun h => insL_step l e r hel k rk HQ.out h
          have hins10 := fun h => insL_step hl e x (by have := HLL.out; omega) k xk HQH.out h
          have HL12 := Lib.hid (hl1.trans hl2.symm)
          change ((ins l e r).take (mm e k)).length = _ at hl1
          change ((insH hl e x).take (mm e k)).length = _ at hl2
          change k ≠ e → (ins l e r).take (mm e (k + 1)) = (ins l e r).take (mm e k) ++ [rk] at hins9
          change k ≠ e → (insH hl e x).take (mm e (k + 1)) = (insH hl e x).take (mm e k) ++ [xk] at hins10
          obtain ⟨L9, hL9⟩ : ∃ L, (ins l e r).take (mm e k) = L := ⟨_, rfl⟩
          obtain ⟨L10, hL10⟩ : ∃ L, (insH hl e x).take (mm e k) = L := ⟨_, rfl⟩
          have HL9 := Lib.hid hL9
          have HL10 := Lib.hid hL10
          rw [hL9] at hrows hl1 hins9
          rw [hL10] at hhts hl2 hins10
          have hb9l : L9.length ≤ 4294967297 := by omega
          have hb10l : L10.length ≤ 4294967297 := by omega
          have HI9 := Lib.hid hins9
          have HI10 := Lib.hid hins10
          clear hl1 hl2 hL9 hL10 hins9 hins10 hmk
          by_cases hke : k = e
          · subst hke
            have hs9 := insL_step_e l k r rk HQ.out
            have hs10 := insL_step_e hl k x xk HQH.out
            change (ins l k r).take (mm k (k + 1)) = (ins l k r).take (mm k k) ++ [r] ++ [rk] at hs9
            change (insH hl k x).take (mm k (k + 1)) = (insH hl k x).take (mm k k) ++ [x] ++ [xk] at hs10
            rw [HL9.out] at hs9
            rw [HL10.out] at hs10
            have HS9 := Lib.hid hs9
            have HS10 := Lib.hid hs10
            clear hs9 hs10
            go_wp2_with (first
              | (at_builtin; refine wpList_append_row rfl (.tmp 47) (.tmp 49) rfl u9 L9 r rfl rfl hrows (by omega) hb.size ?_
                 intro g7 c7 W7 hrows7 hg7
                 have hb7 := below_append hb hrows hb.size hg7
                 have hhts7 := (hhts.alloc (.cells (rowC r) 27)).kept hg7 (own_ne hhts hrows (by decide)))
              | (at_builtin; refine wpList_append_int rfl (.tmp 51) (.tmp 53) rfl u10 L10 x rfl rfl hhts7 (by omega) hb7.size ?_
                 intro g8 c8 W8 hhts8 hg8
                 have hb8 := below_append hb7 hhts7 hb7.size hg8
                 have hrows8 := (hrows7.alloc (.cells #[.int .i64 (x : Int)] 3)).kept hg8 (own_ne hrows7 hhts7 (by decide))
                 obtain ⟨f0, f1, x0, x1, x2, x3⟩ := HSR.below hb8
                 have q0 := cell_on hb8 p0
                 have q1 := cell_on hb8 p1
                 have q2 := cell_on hb8 p2
                 have q3 := cell_on hb8 p3)
              | (at_builtin; refine wpList_append_row rfl (.tmp 55) (.tmp 63) rfl (.slice (some ⟨g7, 0, none⟩) (L9.length + 1) c7) (L9 ++ [r]) rk rfl rfl (by simpa using hrows8) (by simp; omega) hb8.size ?_
                 intro g9 c9 W9 hrows9 hg9
                 have hb9 := below_append hb8 hrows8 hb8.size hg9
                 have hhts9 := (hhts8.alloc (.cells (rowC rk) 27)).kept hg9 (own_ne hhts8 hrows8 (by decide))
                 obtain ⟨f0, f1, x0, x1, x2, x3⟩ := HSR.below hb9
                 have z0 := cell_on hb9 z00)
              | (at_builtin; refine wpList_append_int rfl (.tmp 65) (.tmp 73) rfl (.slice (some ⟨g8, 0, none⟩) (L10.length + 1) c8) (L10 ++ [x]) xk rfl rfl (by simpa using hhts9) (by simp; omega) hb9.size ?_
                 intro g10 c10 W10 hhts10 hg10
                 have hb10 := below_append hb9 hhts9 hb9.size hg10
                 have hrows10 := (hrows9.alloc (.cells #[.int .i64 (xk : Int)] 3)).kept hg10 (own_ne hrows9 hhts9 (by decide))))
            go_roundw
            case rel =>
              refine ⟨k + 1, by go_num, by omega, ?_, ?_, hb10⟩
              · rw [HS9.out]
                simpa using hrows10
              · rw [HS10.out]
                simpa using hhts10
            case measure => simp [intOf]; omega
          · go_wp2_with (first
              | (at_builtin; refine wpList_append_row rfl (.tmp 55) (.tmp 63) rfl u9 L9 rk rfl rfl hrows (by omega) hb.size ?_
                 intro g9 c9 W9 hrows9 hg9
                 have hb9 := below_append hb hrows hb.size hg9
                 have hhts9 := (hhts.alloc (.cells (rowC rk) 27)).kept hg9 (own_ne hhts hrows (by decide))
                 obtain ⟨f0, f1, x0, x1, x2, x3⟩ := HSR.below hb9
                 have z0 := cell_on hb9 z00)
              | (at_builtin; refine wpList_append_int rfl (.tmp 65) (.tmp 73) rfl u10 L10 xk rfl rfl hhts9 (by omega) hb9.size ?_
                 intro g10 c10 W10 hhts10 hg10
                 have hb10 := below_append hb9 hhts9 hb9.size hg10
                 have hrows10 := (hrows9.alloc (.cells #[.int .i64 (xk : Int)] 3)).kept hg10 (own_ne hrows9 hhts9 (by decide))))
            go_roundw
            case rel =>
              refine ⟨k + 1, by go_num, by omega, ?_, ?_, hb10⟩
              · rw [HI9.out hke]
                simpa using hrows10
              · rw [HI10.out hke]
                simpa using hhts10
            case measure => simp [intOf]; omega
        · obtain rfl : k = l.length := by omega
          have he9 := insL_end l e r hel
          have he10 := insL_end hl e x (by omega)
          rw [hhl] at he10
          change (e < l.length → (ins l e r).take (mm e l.length) = ins l e r) ∧ (e = l.length → (ins l e r).take (mm e l.length) ++ [r] = ins l e r) at he9
          change (e < l.length → (insH hl e x).take (mm e l.length) = insH hl e x) ∧ (e = l.length → (insH hl e x).take (mm e l.length) ++ [x] = insH hl e x) at he10
          have hl1 := insL_len l e r hel l.length (Nat.le_refl _)
          have hl2 := insL_len hl e x (by omega) hl.length (Nat.le_refl _)
          rw [hhl] at hl2
          change ((ins l e r).take (mm e l.length)).length = _ at hl1
          change ((insH hl e x).take (mm e l.length)).length = _ at hl2
          have hmk : mm e l.length ≤ l.length + 1 := by unfold mm; split <;> omega
          have hml : (ins l e r).length = l.length + 1 ∧ (insH hl e x).length = l.length + 1 := ⟨by simp [ins]; omega, by simp [insH]; omega⟩
          obtain ⟨L9, hL9⟩ : ∃ L, (ins l e r).take (mm e l.length) = L := ⟨_, rfl⟩
          obtain ⟨L10, hL10⟩ : ∃ L, (insH hl e x).take (mm e l.length) = L := ⟨_, rfl⟩
          rw [hL9] at hrows hl1 he9
          rw [hL10] at hhts hl2 he10
          have hb9l : L9.length ≤ 4294967297 := by omega
          have hb10l : L10.length ≤ 4294967297 := by omega
          have hbB : b4 < w.heap.size := (Array.getElem?_eq_some_iff.1 HCC.out).1
          have hnB : b4 < w0.heap.size := by have := HZ0.out; omega
          have HE9 := Lib.hid he9
          have HE10 := Lib.hid he10
          have HML := Lib.hid hml
          clear hl1 hl2 hL9 hL10 he9 he10 hmk hhl hml
          have HFIN := Lib.hid (fun (W : World) (vR vH : Value) (hW : Below w0.heap.size w0 W) (o1 : W.ownsRow w0.heap.size 27 4 vR (l.length + 1) (flat (ins l e r))) (o2 : W.ownsRow w0.heap.size 3 1 vH (l.length + 1) (flatI (insH hl e x))) =>
            putR_fin HCC.out HB0.out (by have := HZ0.out; omega) hW o1 o2)
          have SRC2 := HSR.below hb
          by_cases hee : e = l.length
          · have hE9 := HE9.out.2 hee
            have hE10 := HE10.out.2 hee
            have HL := Lib.hid hee
            have hle : L9.length = l.length ∧ L10.length = l.length := by
              have h1 := congrArg List.length hE9
              have h2 := congrArg List.length hE10
              rw [List.length_append, HML.out.1] at h1
              rw [List.length_append, HML.out.2] at h2
              simp at h1 h2; omega
            have HLE := Lib.hid hle
            have HE9' := Lib.hid hE9
            have HE10' := Lib.hid hE10
            clear hE9 hE10 hle
            subst hee
            go_wp2_with (first
              | (at_builtin; refine wpList_append_row rfl (.tmp 82) (.tmp 84) rfl u9 L9 r rfl rfl hrows (by omega) hb.size ?_
                 intro g7 c7 W7 hrows7 hg7
                 have hb7 := below_append hb hrows hb.size hg7
                 have hhts7 := (hhts.alloc (.cells (rowC r) 27)).kept hg7 (own_ne hhts hrows (by decide)))
              | (at_builtin; refine wpList_append_int rfl (.tmp 86) (.tmp 88) rfl u10 L10 x rfl rfl hhts7 (by omega) hb7.size ?_
                 intro g8 c8 W8 hhts8 hg8
                 have hb8 := below_append hb7 hhts7 hb7.size hg8
                 have hrows8 := (hrows7.alloc (.cells #[.int .i64 (x : Int)] 3)).kept hg8 (own_ne hrows7 hhts7 (by decide))
                 obtain ⟨f0, f1, x0, x1, x2, x3⟩ := HSR.below hb8
                 have hf : ∀ i, W8.frozen? ⟨b4, i, none⟩ = false := free_of ((hb8.block b4 hnB).trans ((HB0.out.block b4 hbB).trans HCC.out))
                 have hf0 := hf 0
                 have hf1 := hf 1
                 clear hf))
            go_ret
            refine ⟨rfl, ?_⟩
            rw [HX.out]
            refine HFIN.out W8 _ _ hb8 ?_ ?_
            · rw [← HE9'.out]; have h1 := HLE.out.1; rw [List.length_append] at hrows8; simpa [h1] using hrows8
            · rw [← HE10'.out]; have h1 := HLE.out.2; rw [List.length_append] at hhts8; simpa [h1] using hhts8
          · have hE9 := HE9.out.1 (by omega)
            have hE10 := HE10.out.1 (by omega)
            have HE9' := Lib.hid hE9
            have HE10' := Lib.hid hE10
            clear hE9 hE10
            obtain ⟨A9, c9, hu9⟩ : ∃ A c, u9 = .slice A L9.length c := by
              obtain ⟨A1, c1, h1, _⟩ := rows_of_own hrows rfl
              exact ⟨A1, c1, h1⟩
            obtain ⟨A10, c10, hu10⟩ : ∃ A c, u10 = .slice A L10.length c := by
              obtain ⟨A1, c1, h1, _⟩ := ints_of_own hhts rfl
              exact ⟨A1, c1, h1⟩
            subst hu9 hu10
            have hf : ∀ i, wr.frozen? ⟨b4, i, none⟩ = false := free_of ((hb.block b4 hnB).trans ((HB0.out.block b4 hbB).trans HCC.out))
            have hf0 := hf 0
            have hf1 := hf 1
            clear hf
            go_wp2
            go_ret
            refine ⟨rfl, ?_⟩
            rw [HX.out]
            refine HFIN.out wr _ _ hb ?_ ?_
            · rw [← HE9'.out]; have h1 := HML.out.1; rw [← HE9'.out] at h1; rw [h1] at hrows; simpa [h1] using hrows
            · rw [← HE10'.out]; have h1 := HML.out.2; rw [← HE10'.out] at h1; rw [h1] at hhts; simpa [h1] using hhts
end Go.Proofs.Ythhdameaihclmaa
