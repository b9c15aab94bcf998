/- The rows of MemAt's batches, as the law's second loop takes them. Conditions: none. -/
import Derived.Test.YthhdameaihclmaaMl
namespace Go.Proofs.Ythhdameaihclmaa
open Go.RowKit Sk

def OkL (l : List Sl) : Prop := ∀ b ∈ bcs 1 l, okB b.s b.x.ws = true ∧ b.x.ws.length ≤ 20
def bcZ : Array Value := #[.int .u64 0, .slice none 0 0]
def rws (l : List Bt) (k : Nat) : List Rw := allRows (l.take k)
theorem rws_zero (l : List Bt) : rws l 0 = [] := by simp [rws, allRows]
theorem rws_succ {l : List Bt} {k : Nat} {b : Bt} (h : l[k]? = some b) : rws l (k + 1) = rws l k ++ rowsOf b.seq b.ws := by
  rw [rws, take_snoc' h, allRows_append]; simp [rws, allRows]
theorem rws_fresh {l : List Bt} (ha : Apart (allRows l)) {k : Nat} {b : Bt} (h : l[k]? = some b) : ∀ r ∈ rws l k, ∀ x ∈ rowsOf b.seq b.ws, r.seq ≠ x.seq := by
  have e : allRows l = rws l (k + 1) ++ allRows (l.drop (k + 1)) := by rw [rws, ← allRows_append, List.take_append_drop]
  rw [e, rws_succ h] at ha
  have := (List.pairwise_append.1 (List.pairwise_append.1 ha).1).2.2
  exact fun r hr x hx => this r hr x hx
theorem rws_len {l : List Bt} (hl : ∀ b ∈ l, b.ws.length ≤ 20) (k : Nat) : (rws l k).length ≤ l.length * 20 := by
  have key : ∀ m : List Bt, (∀ b ∈ m, b.ws.length ≤ 20) → (allRows m).length ≤ m.length * 20 := by
    intro m
    induction m with
    | nil => intro _; simp [allRows]
    | cons b m ih =>
      intro hm
      have h1 := hm b (by simp)
      have h2 := ih (fun y hy => hm y (by simp [hy]))
      have e : allRows (b :: m) = rowsOf b.seq b.ws ++ allRows m := by simp [allRows]
      rw [e, List.length_append, rowsOf_len, List.length_cons]
      omega
  have h1 := key (l.take k) (fun b hb => hl b (List.mem_of_mem_take hb))
  have h2 : (l.take k).length ≤ l.length := by rw [List.length_take]; omega
  unfold rws
  omega
theorem apart_rev {l : List Bt} (h : Apart (allRows l)) : Apart (allRows l.reverse) := h.perm (allRows_perm (List.reverse_perm l).symm)
theorem bts_get {s : Int} {ls : List Sl} {k : Nat} {b : Bc} (h : (bcs s ls)[k]? = some b) : (bts s ls)[k]? = some (btOf b) := by simp [bts, h]
theorem bts_rev {s : Int} {ls : List Sl} {k j : Nat} {b : Bc} (h : (bcs s ls)[j]? = some b) (hj : ls.length = k + 1 + j) : (bts s ls).reverse[k]? = some (btOf b) := by
  have hl : (bts s ls).length = ls.length := by simp [bts, bcs_len]
  rw [List.getElem?_reverse (by omega), hl, show ls.length - 1 - k = j by omega]
  exact bts_get h
theorem endSeq_take {s : Int} {ls : List Sl} {k : Nat} {b : Bc} (h : (bcs s ls)[k]? = some b) : b.s = endSeq s ((bts s ls).take k) ∧ endSeq s ((bts s ls).take (k + 1)) = b.s + b.x.ws.length := by
  have hk : k < ls.length := by have := (List.getElem?_eq_some_iff.1 h).1; rwa [bcs_len] at this
  have e := bcs_get (s := s) (List.getElem?_eq_getElem hk)
  rw [h] at e
  injection e with e
  have e1 : b.s = endSeq s ((bts s ls).take k) := by rw [e, bts, bcs_take, List.map_take]; rfl
  refine ⟨e1, ?_⟩
  rw [take_snoc' (bts_get h), endSeq_snoc, e1]; rfl
theorem bc_in {s : Int} {ls : List Sl} {k : Nat} {b : Bc} (h : (bcs s ls)[k]? = some b) : ls[k]? = some b.x := by
  have hk : k < ls.length := by have := (List.getElem?_eq_some_iff.1 h).1; rwa [bcs_len] at this
  have e := bcs_get (s := s) (List.getElem?_eq_getElem hk)
  rw [h] at e
  injection e with e
  rw [List.getElem?_eq_getElem hk, e]
/-- What the law's four questions tell. -/
theorem law_get {ls : List Sl} {n : Nat} {l1 l2 l3 : List Rw} (o1 : Sk.Ord l1) (o2 : Sk.Ord l2) (o3 : Sk.Ord l3) (p1 : l1.Perm (rws (bts 1 ls) n)) (p2 : l2.Perm (rws (bts 1 ls) ls.length)) (p3 : l3.Perm (rws (bts 1 ls).reverse ls.length)) (hm : endSeq 1 ((bts 1 ls).take n) - 1 ≤ 18446744073709551615) (key : ByteArray) :
    getR l1 key (endSeq 1 ((bts 1 ls).take n) - 1) = getR l2 key (endSeq 1 ((bts 1 ls).take n) - 1) ∧ getR l1 key (endSeq 1 ((bts 1 ls).take n) - 1) = getR l3 key (endSeq 1 ((bts 1 ls).take n) - 1) ∧ getR l1 key (endSeq 1 ((bts 1 ls).take n) - 1) = getR l1 key 18446744073709551615 ∧ l2 = l3 ∧
      ∀ r, getR l1 key (endSeq 1 ((bts 1 ls).take n) - 1) = some r → r.key = key ∧ r.seq ≤ endSeq 1 ((bts 1 ls).take n) - 1 := by
  have hl : (bts 1 ls).length = ls.length := by simp [bts, bcs_len]
  have hc := bts_chain 1 ls
  have ha := chain_apart hc
  have e0 : rws (bts 1 ls) ls.length = allRows (bts 1 ls) := by rw [rws, List.take_of_length_le (by omega)]
  have e : allRows (bts 1 ls) = rws (bts 1 ls) n ++ allRows ((bts 1 ls).drop n) := by rw [rws, ← allRows_append, List.take_append_drop]
  have e3 : rws (bts 1 ls).reverse ls.length = allRows (bts 1 ls).reverse := by rw [rws, List.take_of_length_le (by simp; omega)]
  have hc2 : Chain 1 ((bts 1 ls).take n) ∧ Chain (endSeq 1 ((bts 1 ls).take n)) ((bts 1 ls).drop n) := by
    rw [← chain_append, List.take_append_drop]; exact hc
  have p2' : l2.Perm (rws (bts 1 ls) n ++ allRows ((bts 1 ls).drop n)) := by rw [← e, ← e0]; exact p2
  have p3' : l3.Perm (rws (bts 1 ls) n ++ allRows ((bts 1 ls).drop n)) := by rw [← e]; exact p3.trans (by rw [e3]; exact allRows_perm (List.reverse_perm _))
  obtain ⟨g1, g2, g3, g4, g5⟩ := memAt_law (n := endSeq 1 ((bts 1 ls).take n) - 1) (m := 18446744073709551615) o1 o2 o3 p1 p2' p3' (by rw [← e]; exact ha)
    (fun r hr => by have := chain_seq hc2.1 hr; omega) (fun r hr => by have := chain_seq hc2.2 hr; omega) hm key
  exact ⟨g1, g1.trans g2, g3, g4, g5⟩
end Go.Proofs.Ythhdameaihclmaa
