/- Plain facts for the skip list: rows in order, the positions that a search comes to, and how many steps it takes. Conditions: none. -/
import GoSem.Op.String
namespace Go.Proofs.Ythhdameaihclmaa.Sk
open Go

/-! ## strings -/
theorem bl_eq : ∀ (x y : List UInt8), Op.bytesLess x y = decide (x < y)
  | [], [] => by simp [Op.bytesLess]
  | _ :: _, [] => by simp [Op.bytesLess]
  | [], _ :: _ => by simp [Op.bytesLess]
  | a :: x, b :: y => by
    rw [Op.bytesLess, bl_eq x y]
    simp only [List.cons_lt_cons_iff]
    by_cases h1 : a < b <;> by_cases h2 : a = b <;> by_cases h3 : x < y <;> simp [h1, h2, h3]

/-! ## rows -/
structure Rw where
  key : ByteArray
  seq : Int
  kind : Int
  val : ByteArray

/-- 'Does a row stand ahead of a place?' -/
def ah (r : Rw) (k : ByteArray) (s : Int) : Bool :=
  Op.bytesLess r.key.toList k.toList || (r.key.toList == k.toList && decide (s < r.seq))
/-- 'Has a row that place?' -/
def at_ (r : Rw) (k : ByteArray) (s : Int) : Bool := r.key.toList == k.toList && r.seq == s

theorem ah_trans {a b : Rw} {k : ByteArray} {s : Int} (h : ah a b.key b.seq = true) (h2 : ah b k s = true) : ah a k s = true := by
  simp only [ah, bl_eq, Bool.or_eq_true, decide_eq_true_eq, Bool.and_eq_true, beq_iff_eq] at *
  rcases h with h | ⟨h, h'⟩ <;> rcases h2 with h2 | ⟨h2, h2'⟩
  · exact .inl (List.lt_trans h h2)
  · exact .inl (h2 ▸ h)
  · exact .inl (h ▸ h2)
  · exact .inr ⟨h.trans h2, by omega⟩

/-- A row that is not ahead of a place, and has it not, is behind it. -/
theorem ah_total {r : Rw} {x : Rw} (h : ah r x.key x.seq = false) (h2 : at_ r x.key x.seq = false) : ah x r.key r.seq = true := by
  simp only [ah, at_, bl_eq, Bool.or_eq_true, decide_eq_true_eq, Bool.and_eq_true, beq_iff_eq, Bool.or_eq_false_iff, decide_eq_false_iff_not, Bool.and_eq_false_iff, beq_eq_false_iff_ne] at *
  obtain ⟨h1, h3⟩ := h
  by_cases e : r.key.toList = x.key.toList
  · refine .inr ⟨e.symm, ?_⟩
    rcases h3 with h3 | h3
    · exact absurd e h3
    · rcases h2 with h2 | h2
      · exact absurd e h2
      · omega
  · refine .inl ?_
    rcases Classical.em (x.key.toList < r.key.toList) with h | h
    · exact h
    · exact absurd (List.le_antisymm (List.not_lt.1 h) (List.not_lt.1 h1)) e

theorem ah_irrefl (r : Rw) : ah r r.key r.seq = false := by
  simp [ah, bl_eq, List.lt_irrefl]

/-- What stands ahead of a place that a row has is not that row. -/
theorem not_at_of_ah {r : Rw} {k : ByteArray} {s : Int} (h : ah r k s = true) : at_ r k s = false := by
  cases e : at_ r k s with
  | false => rfl
  | true =>
    simp only [ah, at_, bl_eq, Bool.or_eq_true, decide_eq_true_eq, Bool.and_eq_true, beq_iff_eq] at h e
    obtain ⟨e1, e2⟩ := e
    rcases h with h | ⟨_, h⟩
    · rw [e1] at h; exact absurd h (List.lt_irrefl _)
    · omega

def Ord (rs : List Rw) : Prop := rs.Pairwise fun a b => ah a b.key b.seq = true

/-- 'Place': how many rows stand ahead of a place. -/
def place (rs : List Rw) (k : ByteArray) (s : Int) : Nat := (rs.takeWhile fun r => ah r k s).length

theorem place_le (rs : List Rw) (k : ByteArray) (s : Int) : place rs k s ≤ rs.length := by
  unfold place
  induction rs with
  | nil => simp
  | cons r rs ih => rw [List.takeWhile_cons]; split <;> simp <;> omega

theorem place_at {rs : List Rw} {k : ByteArray} {s : Int} {q : Nat} {r : Rw} (hq : rs[q]? = some r) (h : q < place rs k s) : ah r k s = true := by
  unfold place at h
  induction rs generalizing q with
  | nil => simp at hq
  | cons x rs ih =>
    rw [List.takeWhile_cons] at h
    split at h
    · rename_i hx
      cases q with
      | zero => simp at hq; subst hq; exact hx
      | succ q => exact ih (by simpa using hq) (by simp at h; omega)
    · simp at h

theorem place_end {rs : List Rw} {k : ByteArray} {s : Int} {r : Rw} (hq : rs[place rs k s]? = some r) : ah r k s = false := by
  unfold place at hq
  induction rs with
  | nil => simp at hq
  | cons x rs ih =>
    rw [List.takeWhile_cons] at hq
    split at hq
    · exact ih (by simpa using hq)
    · rename_i hx
      simp at hq; subst hq; simpa using hx

theorem Ord.lt {rs : List Rw} (h : Ord rs) {i j : Nat} {a b : Rw} (hi : rs[i]? = some a) (hj : rs[j]? = some b) (hij : i < j) : ah a b.key b.seq = true := by
  obtain ⟨hi', rfl⟩ := List.getElem?_eq_some_iff.1 hi
  obtain ⟨hj', rfl⟩ := List.getElem?_eq_some_iff.1 hj
  exact List.pairwise_iff_getElem.1 h i j hi' hj' hij

/-- In order: ahead of a place are just the rows at the positions below 'place'. -/
theorem ord_ah {rs : List Rw} (h : Ord rs) {k : ByteArray} {s : Int} {q : Nat} {r : Rw} (hq : rs[q]? = some r) : ah r k s = decide (q < place rs k s) := by
  by_cases hlt : q < place rs k s
  · rw [place_at hq hlt, decide_eq_true hlt]
  · rw [decide_eq_false hlt]
    have hl : place rs k s < rs.length := by have := (List.getElem?_eq_some_iff.1 hq).1; omega
    have he := place_end (k := k) (s := s) (List.getElem?_eq_getElem hl)
    rcases Nat.lt_or_ge (place rs k s) q with h1 | h1
    · have h2 := h.lt (List.getElem?_eq_getElem hl) hq h1
      cases e : ah r k s with
      | false => rfl
      | true => rw [ah_trans h2 e] at he; cases he
    · have e : q = place rs k s := by omega
      rw [e, List.getElem?_eq_getElem hl] at hq
      cases hq; exact he

theorem place_of {rs : List Rw} (h : Ord rs) {k : ByteArray} {s : Int} {n : Nat} (hn : n ≤ rs.length) (h1 : ∀ q r, rs[q]? = some r → q < n → ah r k s = true)
    (h2 : ∀ r, rs[n]? = some r → ah r k s = false) : place rs k s = n := by
  have hp := place_le rs k s
  rcases Nat.lt_trichotomy (place rs k s) n with hlt | he | hgt
  · have hl : place rs k s < rs.length := by omega
    have := place_end (k := k) (s := s) (List.getElem?_eq_getElem hl)
    rw [h1 _ _ (List.getElem?_eq_getElem hl) hlt] at this; cases this
  · exact he
  · have hl : n < rs.length := by omega
    have hx := h2 _ (List.getElem?_eq_getElem hl)
    rw [ord_ah h (List.getElem?_eq_getElem hl), decide_eq_true hgt] at hx; cases hx

/-- The place of a row that is there. -/
theorem place_self {rs : List Rw} (h : Ord rs) {q : Nat} {r : Rw} (hq : rs[q]? = some r) : place rs r.key r.seq = q :=
  place_of h (Nat.le_of_lt (List.getElem?_eq_some_iff.1 hq).1) (fun _ _ hp hlt => h.lt hp hq hlt) (fun x hx => by rw [hq] at hx; cases hx; exact ah_irrefl r)

/-- The greatest place of all: nothing stands ahead of the empty key at the greatest number. -/
theorem place_zero (rs : List Rw) (k : ByteArray) (s : Int) (hk : k.toList = []) (hs : ∀ r ∈ rs, r.seq ≤ s) : place rs k s = 0 := by
  cases rs with
  | nil => rfl
  | cons r rs =>
    have h1 : ah r k s = false := by
      have := hs r (by simp)
      simp [ah, bl_eq, hk, show ¬ s < r.seq by omega]
    simp [place, h1]

def ins (rs : List Rw) (e : Nat) (r : Rw) : List Rw := rs.take e ++ r :: rs.drop e

theorem ins_ord {rs : List Rw} (h : Ord rs) {r : Rw} (hn : ∀ x, rs[place rs r.key r.seq]? = some x → at_ x r.key r.seq = false) : Ord (ins rs (place rs r.key r.seq) r) := by
  unfold ins Ord
  rw [List.pairwise_append]
  refine ⟨h.sublist (List.take_sublist _ _), ?_, ?_⟩
  · rw [List.pairwise_cons]
    refine ⟨fun y hy => ?_, h.sublist (List.drop_sublist _ _)⟩
    obtain ⟨j, hj⟩ := List.mem_iff_getElem?.1 hy
    rw [List.getElem?_drop] at hj
    have hl : place rs r.key r.seq < rs.length := by have := (List.getElem?_eq_some_iff.1 hj).1; omega
    have h0 := List.getElem?_eq_getElem hl
    have h1 := ah_total (place_end (k := r.key) (s := r.seq) h0) (hn _ h0)
    cases j with
    | zero => rw [Nat.add_zero] at hj; rw [h0] at hj; cases hj; exact h1
    | succ j => exact ah_trans h1 (h.lt h0 hj (by omega))
  · intro x hx y hy
    obtain ⟨i, hi⟩ := List.mem_iff_getElem?.1 hx
    rw [List.getElem?_take] at hi
    split at hi
    · rename_i hlt
      have hxr := place_at hi hlt
      rcases List.mem_cons.1 hy with rfl | hy
      · exact hxr
      · obtain ⟨j, hj⟩ := List.mem_iff_getElem?.1 hy
        rw [List.getElem?_drop] at hj
        exact h.lt hi hj (by omega)
    · cases hi

/-! ## the positions of a search -/
def lst (H : List Nat) (i p e : Nat) : List Nat := (List.range' p (e - p)).filter fun q => decide (i < H.getD q 0)
def cnt (H : List Nat) (i p e : Nat) : Nat := (lst H i p e).length
def fin (H : List Nat) (i p e : Nat) : Nat := match (lst H i p e).getLast? with | some q => q + 1 | none => p

theorem lst_nil (H : List Nat) (i p e : Nat) (h : e ≤ p) : lst H i p e = [] := by
  unfold lst; rw [Nat.sub_eq_zero_of_le h]; rfl
theorem lst_cons (H : List Nat) {i p e : Nat} (h : p < e) : lst H i p e = (if i < H.getD p 0 then [p] else []) ++ lst H i (p + 1) e := by
  unfold lst
  obtain ⟨m, hm⟩ : ∃ m, e - p = m + 1 := ⟨e - p - 1, by omega⟩
  have hm' : e - (p + 1) = m := by omega
  rw [hm, hm', List.range'_succ, List.filter_cons]
  by_cases hc : i < H.getD p 0
  · simp only [hc, decide_true, if_true, List.cons_append, List.nil_append]
  · simp only [hc, decide_false, Bool.false_eq_true, if_false, List.nil_append]
theorem lst_snoc (H : List Nat) {i p e : Nat} (h : p ≤ e) : lst H i p (e + 1) = lst H i p e ++ (if i < H.getD e 0 then [e] else []) := by
  unfold lst
  have hm : e + 1 - p = (e - p) + 1 := by omega
  rw [hm, List.range'_concat, List.filter_append]
  have he : p + 1 * (e - p) = e := by omega
  rw [he, List.filter_cons, List.filter_nil]
  by_cases hc : i < H.getD e 0
  · simp only [hc, decide_true, if_true]
  · simp only [hc, decide_false, Bool.false_eq_true, if_false]
theorem mem_lst {H : List Nat} {i p e q : Nat} : q ∈ lst H i p e ↔ p ≤ q ∧ q < e ∧ i < H.getD q 0 := by
  unfold lst
  rw [List.mem_filter, List.mem_range'_1, decide_eq_true_eq]
  omega
theorem lst_none {H : List Nat} {i p e : Nat} (h : ∀ q, p ≤ q → q < e → ¬ i < H.getD q 0) : lst H i p e = [] := by
  rw [List.eq_nil_iff_forall_not_mem]
  intro q hq
  obtain ⟨h1, h2, h3⟩ := mem_lst.1 hq
  exact h q h1 h2 h3
theorem lst_split (H : List Nat) (i : Nat) {p q e : Nat} (h1 : p ≤ q) (h2 : q ≤ e) : lst H i p e = lst H i p q ++ lst H i q e := by
  unfold lst
  rw [← List.filter_append]
  have h := List.range'_append_1 (s := p) (m := q - p) (n := e - q)
  rw [show p + (q - p) = q by omega, show q - p + (e - q) = e - p by omega] at h
  rw [h]

theorem fin_nil {H : List Nat} {i p e : Nat} (h : lst H i p e = []) : fin H i p e = p := by unfold fin; rw [h]; rfl
theorem cnt_nil {H : List Nat} {i p e : Nat} (h : lst H i p e = []) : cnt H i p e = 0 := by unfold cnt; rw [h]; rfl

/-- One step of a search: to the next row of the level. -/
theorem fin_step {H : List Nat} {i p q e : Nat} (h1 : p ≤ q) (h2 : q < e) (hq : i < H.getD q 0) (hn : ∀ x, p ≤ x → x < q → ¬ i < H.getD x 0) :
    fin H i p e = fin H i (q + 1) e ∧ cnt H i p e = cnt H i (q + 1) e + 1 := by
  have e1 : lst H i p e = q :: lst H i (q + 1) e := by
    rw [lst_split H i h1 (by omega : q ≤ e), lst_none hn, lst_cons H h2, if_pos hq]; rfl
  constructor
  · unfold fin
    rw [e1, List.getLast?_cons]
    cases lst H i (q + 1) e |>.getLast? <;> rfl
  · unfold cnt; rw [e1]; rfl

theorem fin_char {H : List Nat} {i p e : Nat} (h : p ≤ e) :
    p ≤ fin H i p e ∧ fin H i p e ≤ e ∧ (∀ q, fin H i p e ≤ q → q < e → ¬ i < H.getD q 0) ∧ (fin H i p e = p ∨ (p < fin H i p e ∧ i < H.getD (fin H i p e - 1) 0)) := by
  induction e with
  | zero =>
    have hp : p = 0 := by omega
    rw [fin_nil (lst_nil H i p 0 (by omega))]
    exact ⟨Nat.le_refl _, by omega, fun q _ h2 => absurd h2 (by omega), .inl rfl⟩
  | succ e ih =>
    rcases Nat.lt_or_ge e p with hlt | hge
    · rw [fin_nil (lst_nil H i p (e + 1) (by omega))]
      exact ⟨Nat.le_refl _, by omega, fun q h1 h2 => absurd h2 (by omega), .inl rfl⟩
    · obtain ⟨a, b, c, d⟩ := ih hge
      have hs : fin H i p (e + 1) = if i < H.getD e 0 then e + 1 else fin H i p e := by
        unfold fin
        rw [lst_snoc H hge]
        by_cases hc : i < H.getD e 0
        · rw [if_pos hc, if_pos hc, List.getLast?_append]; rfl
        · rw [if_neg hc, if_neg hc, List.append_nil]
      rw [hs]
      by_cases hc : i < H.getD e 0
      · rw [if_pos hc]
        exact ⟨by omega, by omega, fun q h1 h2 => absurd h2 (by omega), .inr ⟨by omega, by simpa using hc⟩⟩
      · rw [if_neg hc]
        refine ⟨a, by omega, fun q h1 h2 => ?_, d⟩
        rcases Nat.lt_or_ge q e with h3 | h3
        · exact c q h1 h3
        · have : q = e := by omega
          rw [this]; exact hc

theorem fin_uniq {H : List Nat} {i p e x : Nat} (h : p ≤ e) (hx : x ≤ e) (hn : ∀ q, x ≤ q → q < e → ¬ i < H.getD q 0) (hl : x = p ∨ (p < x ∧ i < H.getD (x - 1) 0)) : fin H i p e = x := by
  obtain ⟨a, b, c, d⟩ := fin_char (H := H) (i := i) h
  rcases Nat.lt_trichotomy (fin H i p e) x with h1 | h1 | h1
  · rcases hl with hl | ⟨hl, hl'⟩
    · omega
    · exact absurd hl' (c (x - 1) (by omega) (by omega))
  · exact h1
  · rcases d with d | ⟨d, d'⟩
    · rcases hl with hl | ⟨hl, _⟩ <;> omega
    · exact absurd d' (hn _ (by omega) (by omega))

/-- The position at a level, begun from the level above, is that begun from the front. -/
theorem fin_down (H : List Nat) (i e : Nat) : fin H i (fin H (i + 1) 0 e) e = fin H i 0 e := by
  obtain ⟨a, b, c, d⟩ := fin_char (H := H) (i := i + 1) (Nat.zero_le e)
  obtain ⟨a', b', c', d'⟩ := fin_char (H := H) (i := i) (Nat.zero_le e)
  have hle : fin H (i + 1) 0 e ≤ fin H i 0 e := by
    rcases d with d | ⟨d, d1⟩
    · omega
    · rcases Nat.lt_or_ge (fin H i 0 e) (fin H (i + 1) 0 e) with h | h
      · exact absurd (show i < H.getD (fin H (i + 1) 0 e - 1) 0 by omega) (c' _ (by omega) (by omega))
      · exact h
  refine fin_uniq b b' c' ?_
  rcases Nat.lt_or_ge (fin H (i + 1) 0 e) (fin H i 0 e) with h | h
  · rcases d' with d' | ⟨d', d1⟩
    · omega
    · exact .inr ⟨h, d1⟩
  · exact .inl (by omega)

/-- The position of level i (levels 12 and above have no rows). -/
def pos (H : List Nat) (i e : Nat) : Nat := fin H i 0 e
/-- The steps of the levels i, i + 1, .., 11. -/
def stp (H : List Nat) (e : Nat) : Nat → Nat → Nat
  | 0, _ => 0
  | m + 1, i => cnt H i (pos H (i + 1) e) e + stp H e m (i + 1)
/-- The steps of the levels from i on. -/
def steps (H : List Nat) (e i : Nat) : Nat := stp H e (12 - i) i

theorem steps_top (H : List Nat) (e : Nat) : steps H e 12 = 0 := rfl
theorem steps_down (H : List Nat) (e i : Nat) (h : i < 12) : steps H e i = cnt H i (pos H (i + 1) e) e + steps H e (i + 1) := by
  unfold steps
  obtain ⟨m, hm⟩ : ∃ m, 12 - i = m + 1 := ⟨11 - i, by omega⟩
  rw [hm, show 12 - (i + 1) = m by omega]
  rfl
theorem pos_top (H : List Nat) (e : Nat) (h : ∀ x ∈ H, x ≤ 12) : pos H 12 e = 0 := by
  refine fin_uniq (Nat.zero_le _) (Nat.zero_le _) (fun q _ _ hq => ?_) (.inl rfl)
  rw [List.getD_eq_getElem?_getD] at hq
  cases hx : H[q]? with
  | none => rw [hx] at hq; simp at hq
  | some v => rw [hx] at hq; have := h v (List.mem_of_getElem? hx); simp at hq; omega
theorem pos_le (H : List Nat) (i e : Nat) : pos H i e ≤ e := (fin_char (Nat.zero_le e)).2.1
theorem pos_down (H : List Nat) (i e : Nat) : fin H i (pos H (i + 1) e) e = pos H i e := fin_down H i e
theorem cnt_le (H : List Nat) (i p e : Nat) : cnt H i p e ≤ e - p := by
  unfold cnt lst
  exact Nat.le_trans (List.length_filter_le _ _) (by simp)
theorem steps_le (H : List Nat) (e i : Nat) : steps H e i ≤ (12 - i) * e := by
  unfold steps
  generalize 12 - i = m
  induction m generalizing i with
  | zero => simp [stp]
  | succ m ih =>
    have h1 := ih (i + 1)
    have h2 := cnt_le H i (pos H (i + 1) e) e
    simp only [stp]
    rw [Nat.succ_mul]
    omega

end Go.Proofs.Ythhdameaihclmaa.Sk
