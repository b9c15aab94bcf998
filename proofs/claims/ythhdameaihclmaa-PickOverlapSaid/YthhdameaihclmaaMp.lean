/- What a key has at a number, told from all rows in order: the same from whatever rows have greater numbers, and in whatever order they came. Condition: no two rows have the same number. -/
import Derived.Test.YthhdameaihclmaaPl
import Derived.Laws.Strings
namespace Go.Proofs.Ythhdameaihclmaa.Sk
open Go

/-- What a key has at a number: the row at the place, if it has the key. -/
def getR (l : List Rw) (key : ByteArray) (n : Int) : Option Rw :=
  match l[place l key n]? with
  | some r => if r.key = key then some r else none
  | none => none

theorem toList_inj {a b : ByteArray} (h : a.toList = b.toList) : a = b := by
  rw [ByteArray.toList_eq, ByteArray.toList_eq] at h
  obtain ⟨a⟩ := a
  obtain ⟨b⟩ := b
  simp at h
  exact congrArg _ h

theorem ord_uniq {l l' : List Rw} (h : Ord l) (h' : Ord l') (hp : l.Perm l') : l = l' := by
  refine hp.eq_of_pairwise (fun a b _ _ hab hba => ?_) h h'
  have := ah_trans hab hba
  rw [ah_irrefl] at this
  cases this

/-- 'No two rows have the same number.' -/
def Apart (l : List Rw) : Prop := l.Pairwise fun a b => a.seq ≠ b.seq

theorem Apart.perm {l l' : List Rw} (h : Apart l) (hp : l.Perm l') : Apart l' := (hp.pairwise_iff (fun h => Ne.symm h)).1 h

theorem Apart.eq {l : List Rw} (h : Apart l) {a b : Rw} (ha : a ∈ l) (hb : b ∈ l) (e : a.seq = b.seq) : a = b := by
  induction l with
  | nil => cases ha
  | cons x l ih =>
    obtain ⟨h1, h2⟩ := List.pairwise_cons.1 h
    rcases List.mem_cons.1 ha with e1 | m1 <;> rcases List.mem_cons.1 hb with e2 | m2
    · exact e1.trans e2.symm
    · exact absurd (e1 ▸ e) (h1 _ m2)
    · exact absurd (e2 ▸ e.symm) (h1 _ m1)
    · exact ih h2 m1 m2

/-- The rows of a key at most at a number. -/
def upTo (l : List Rw) (key : ByteArray) (n : Int) (r : Rw) : Prop := r ∈ l ∧ r.key = key ∧ r.seq ≤ n

theorem ah_key {a : Rw} {key : ByteArray} {n : Int} (hk : a.key = key) : ah a key n = decide (n < a.seq) := by
  subst hk
  simp [ah, bl_eq, List.lt_irrefl]

theorem getR_some {l : List Rw} (ho : Ord l) {key : ByteArray} {n : Int} {r : Rw} (h : getR l key n = some r) : upTo l key n r ∧ ∀ x, upTo l key n x → x.seq ≤ r.seq := by
  unfold getR at h
  cases hq : l[place l key n]? with
  | none => rw [hq] at h; cases h
  | some y =>
    rw [hq] at h
    simp only at h
    split at h
    · rename_i hk
      injection h with h
      subst h
      have h1 := place_end hq
      rw [ah_key hk] at h1
      refine ⟨⟨List.mem_of_getElem? hq, hk, by simpa using h1⟩, fun x ⟨hx, hxk, hxn⟩ => ?_⟩
      obtain ⟨j, hj⟩ := List.getElem?_of_mem hx
      rcases Nat.lt_trichotomy j (place l key n) with hlt | heq | hgt
      · have := place_at hj hlt
        rw [ah_key hxk] at this
        simp at this
        omega
      · subst heq
        rw [hj] at hq
        injection hq with hq
        subst hq
        exact Int.le_refl _
      · have := ho.lt hq hj hgt
        rw [ah_key (hk.trans hxk.symm)] at this
        simp at this
        omega
    · cases h

theorem getR_none {l : List Rw} (ho : Ord l) {key : ByteArray} {n : Int} (h : getR l key n = none) : ∀ x, ¬ upTo l key n x := by
  rintro x ⟨hx, hxk, hxn⟩
  obtain ⟨j, hj⟩ := List.getElem?_of_mem hx
  have hge : place l key n ≤ j := by
    rcases Nat.lt_or_ge j (place l key n) with hlt | hge
    · have := place_at hj hlt
      rw [ah_key hxk] at this
      simp at this
      omega
    · exact hge
  have hjl := (List.getElem?_eq_some_iff.1 hj).1
  have hq : l[place l key n]? = some (l[place l key n]'(by omega)) := List.getElem?_eq_getElem _
  unfold getR at h
  rw [hq] at h
  simp only at h
  split at h
  · cases h
  · rename_i hk
    refine hk ?_
    have h1 := place_end hq
    rcases Nat.lt_or_ge (place l key n) j with hlt | hge'
    · have h2 := ho.lt hq hj hlt
      have hkk : (l[place l key n]'(by omega)).key.toList = key.toList := by
        subst hxk
        simp only [ah, bl_eq, Bool.or_eq_true, Bool.or_eq_false_iff, decide_eq_true_eq, decide_eq_false_iff_not, Bool.and_eq_true, beq_iff_eq] at h1 h2
        rcases h2 with h2 | ⟨h2, _⟩
        · exact absurd h2 h1.1
        · exact h2
      exact toList_inj hkk
    · have : j = place l key n := by omega
      subst this
      rw [hj] at hq
      injection hq with hq
      rw [← hq]
      exact hxk

/-- Two tables with the same rows of a key up to two numbers tell the same. -/
theorem getR_same {l l' : List Rw} (ho : Ord l) (ho' : Ord l') (ha : Apart l') {key : ByteArray} {n n' : Int} (h : ∀ x, upTo l key n x ↔ upTo l' key n' x) : getR l key n = getR l' key n' := by
  cases h1 : getR l key n with
  | none =>
    cases h2 : getR l' key n' with
    | none => rfl
    | some r => exact absurd ((h r).2 (getR_some ho' h2).1) (getR_none ho h1 r)
  | some r =>
    cases h2 : getR l' key n' with
    | none => exact absurd ((h r).1 (getR_some ho h1).1) (getR_none ho' h2 r)
    | some r' =>
      obtain ⟨a1, a2⟩ := getR_some ho h1
      obtain ⟨b1, b2⟩ := getR_some ho' h2
      have e1 := a2 r' ((h r').2 b1)
      have e2 := b2 r ((h r).1 a1)
      exact congrArg some (ha.eq ((h r).1 a1).1 b1.1 (by omega))

/-- The law's own words, of three tables. -/
theorem memAt_law {l1 l2 l3 R1 R2 : List Rw} (o1 : Ord l1) (o2 : Ord l2) (o3 : Ord l3) (p1 : l1.Perm R1) (p2 : l2.Perm (R1 ++ R2)) (p3 : l3.Perm (R1 ++ R2)) (ha : Apart (R1 ++ R2)) {n m : Int}
    (h1 : ∀ r ∈ R1, r.seq ≤ n) (h2 : ∀ r ∈ R2, n < r.seq) (hm : n ≤ m) (key : ByteArray) :
    getR l1 key n = getR l2 key n ∧ getR l2 key n = getR l3 key n ∧ getR l1 key n = getR l1 key m ∧ l2 = l3 ∧ ∀ r, getR l1 key n = some r → r.key = key ∧ r.seq ≤ n := by
  have a2 := ha.perm p2.symm
  have e23 : l2 = l3 := ord_uniq o2 o3 (p2.trans p3.symm)
  have a1 : Apart l1 := Apart.perm (List.pairwise_append.1 ha).1 p1.symm
  refine ⟨getR_same o1 o2 a2 fun x => ?_, by rw [e23], getR_same o1 o1 a1 fun x => ?_, e23, fun r hr => ?_⟩
  · unfold upTo
    rw [p1.mem_iff, p2.mem_iff, List.mem_append]
    constructor
    · rintro ⟨h, hk, hn⟩; exact ⟨.inl h, hk, hn⟩
    · rintro ⟨h | h, hk, hn⟩
      · exact ⟨h, hk, hn⟩
      · have := h2 x h; omega
  · unfold upTo
    rw [p1.mem_iff]
    constructor
    · rintro ⟨h, hk, hn⟩; exact ⟨h, hk, by omega⟩
    · rintro ⟨h, hk, hn⟩; exact ⟨h, hk, h1 x h⟩
  · obtain ⟨⟨_, h, h'⟩, _⟩ := getR_some o1 hr
    exact ⟨h, h'⟩

theorem ins_perm (l : List Rw) (e : Nat) (r : Rw) : (ins l e r).Perm (l ++ [r]) := by
  unfold ins
  refine List.perm_middle.trans ?_
  rw [List.take_append_drop]
  exact (List.perm_append_comm (l₁ := [r]) (l₂ := l))

/-! ## batches -/
structure Wr where
  kind : Int
  key : ByteArray
  val : ByteArray
structure Bt where
  seq : Int
  ws : List Wr
def rowOf (s : Int) (w : Wr) : Rw := ⟨w.key, s, w.kind, w.val⟩
/-- The rows of writes, from a number on. -/
def rowsOf : Int → List Wr → List Rw
  | _, [] => []
  | s, w :: ws => rowOf s w :: rowsOf (s + 1) ws
theorem rowsOf_len (s : Int) (ws : List Wr) : (rowsOf s ws).length = ws.length := by
  induction ws generalizing s with
  | nil => rfl
  | cons w ws ih => simp [rowsOf, ih]
theorem rowsOf_get (s : Int) (ws : List Wr) (k : Nat) : (rowsOf s ws)[k]? = (ws[k]?).map (rowOf (s + k)) := by
  induction ws generalizing s k with
  | nil => simp [rowsOf]
  | cons w ws ih =>
    cases k with
    | zero => simp [rowsOf]
    | succ k => simp only [rowsOf, List.getElem?_cons_succ, ih]; rw [show s + 1 + (k : Int) = s + ((k + 1 : Nat) : Int) by omega]
theorem rowsOf_seq {s : Int} {ws : List Wr} {r : Rw} (h : r ∈ rowsOf s ws) : s ≤ r.seq ∧ r.seq < s + ws.length := by
  obtain ⟨k, hk⟩ := List.getElem?_of_mem h
  rw [rowsOf_get] at hk
  cases hw : ws[k]? with
  | none => rw [hw] at hk; cases hk
  | some w =>
    rw [hw] at hk
    injection hk with hk
    subst hk
    have := (List.getElem?_eq_some_iff.1 hw).1
    simp only [rowOf]
    omega
theorem rowsOf_apart (s : Int) (ws : List Wr) : Apart (rowsOf s ws) := by
  induction ws generalizing s with
  | nil => exact List.Pairwise.nil
  | cons w ws ih =>
    refine List.pairwise_cons.2 ⟨fun r hr => ?_, ih _⟩
    have := rowsOf_seq hr
    simp only [rowOf]
    omega
/-- Each batch begins where the one ahead of it ends. -/
def Chain : Int → List Bt → Prop
  | _, [] => True
  | s, b :: bs => b.seq = s ∧ Chain (s + b.ws.length) bs
def endSeq : Int → List Bt → Int
  | s, [] => s
  | s, b :: bs => endSeq (s + b.ws.length) bs
def allRows (bs : List Bt) : List Rw := bs.flatMap fun b => rowsOf b.seq b.ws
theorem endSeq_le (s : Int) (bs : List Bt) : s ≤ endSeq s bs := by
  induction bs generalizing s with
  | nil => exact Int.le_refl _
  | cons b bs ih => have := ih (s + b.ws.length); simp only [endSeq]; omega
theorem chain_seq {s : Int} {bs : List Bt} (h : Chain s bs) {r : Rw} (hr : r ∈ allRows bs) : s ≤ r.seq ∧ r.seq < endSeq s bs := by
  induction bs generalizing s with
  | nil => cases hr
  | cons b bs ih =>
    obtain ⟨rfl, h2⟩ := h
    simp only [allRows, List.flatMap_cons, List.mem_append] at hr
    have he := endSeq_le (b.seq + b.ws.length) bs
    rcases hr with hr | hr
    · have := rowsOf_seq hr
      simp only [endSeq]
      omega
    · have := ih h2 hr
      simp only [endSeq]
      omega
theorem chain_apart {s : Int} {bs : List Bt} (h : Chain s bs) : Apart (allRows bs) := by
  induction bs generalizing s with
  | nil => exact List.Pairwise.nil
  | cons b bs ih =>
    obtain ⟨rfl, h2⟩ := h
    refine List.pairwise_append.2 ⟨rowsOf_apart _ _, ih h2, fun x hx y hy => ?_⟩
    have h1 := rowsOf_seq hx
    have h3 := chain_seq h2 hy
    omega
theorem chain_append {s : Int} {a b : List Bt} : Chain s (a ++ b) ↔ Chain s a ∧ Chain (endSeq s a) b := by
  induction a generalizing s with
  | nil => simp [Chain, endSeq]
  | cons x a ih => simp [Chain, endSeq, ih, and_assoc]
theorem endSeq_append (s : Int) (a b : List Bt) : endSeq s (a ++ b) = endSeq (endSeq s a) b := by
  induction a generalizing s with
  | nil => rfl
  | cons x a ih => simp [endSeq, ih]
theorem allRows_append (a b : List Bt) : allRows (a ++ b) = allRows a ++ allRows b := by simp [allRows]
theorem allRows_perm {a b : List Bt} (h : a.Perm b) : (allRows a).Perm (allRows b) := h.flatMap_right _
end Go.Proofs.Ythhdameaihclmaa.Sk
