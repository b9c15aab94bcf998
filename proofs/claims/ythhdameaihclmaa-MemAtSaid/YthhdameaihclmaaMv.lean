/- A table whose rows are some rows, and what Add, Get and Rows of package mem do to it. Conditions: at most 2^31 rows; in Add that the batch may be and that its numbers are new. -/
import Derived.Test.YthhdameaihclmaaMb
import Derived.Test.YthhdameaihclmaaMx
import Derived.Test.YthhdameaihclmaaAw
namespace Go.Proofs.Ythhdameaihclmaa
open Go.RowKit Sk

set_option maxHeartbeats 1000000 in
theorem trows_any (w : World) (B : Nat) (room least greatest : Value) (ns : List Nd) (h : SL w B 85 #[.bool true, room, least, greatest] ns) (hlen : ns.length ≤ 4294967296) :
    Calls Try.prog 26 #[.pointer (some ⟨B, 0, none⟩)] w (OwnRows w (rs ns)) := by
  have HR := Lib.hid (range_any w B room least greatest ns h hlen)
  go_enter Try.func26, Try.ntmps26
  go_wp2_with (go_at_call 41; refine HR.out.mono ?_; rintro e1 w1 ⟨v, rfl, h1, h2⟩)
  go_ret
  exact ⟨v, rfl, h1, h2⟩

/-- In block B lies a table, made since w, whose rows are R, in some order; st: its own cells. -/
structure TK (w : World) (B : Nat) (R : List Rw) (st : St) (ns : List Nd) (wr : World) : Prop where
  tb : TB wr B st ns
  perm : (rs ns).Perm R
  ge : ∀ b, blks B ns b → w.heap.size ≤ b
theorem TK.len {w wr : World} {B : Nat} {R : List Rw} {st : St} {ns : List Nd} (h : TK w B R st ns wr) : ns.length = R.length := by
  have := h.perm.length_eq
  simpa [rs] using this
theorem TK.on {w wr W : World} {B : Nat} {R : List Rw} {st : St} {ns : List Nd} (h : TK w B R st ns wr) (hb : Below wr.heap.size wr W) : TK w B R st ns W := ⟨SL.below h.tb hb, h.perm, h.ge⟩
/-- What stays where another table turned. -/
theorem TK.off {w wr W : World} {B : Nat} {R : List Rw} {st : St} {ns : List Nd} (h : TK w B R st ns wr) {S : Nat → Prop} (ho : Off S wr W) (hd : ∀ b, blks B ns b → ¬ S b) : TK w B R st ns W :=
  ⟨SL.keep h.tb fun b hb => ho.block b (SL.lt h.tb hb) (hd b hb), h.perm, h.ge⟩
/-- The table's size is at most that of m batches. -/
def Sm (st : St) (m : Nat) : Prop := 0 ≤ st.room ∧ st.room ≤ m * 165376
theorem Sm.add {st : St} {m : Nat} {s : Int} {l : List Wr} (h : Sm st m) (hok : okB s l = true) : Sm ((rowsOf s l).foldl stI st) (m + 1) := by
  obtain ⟨-, h1, h2, hbad, h64, hlong⟩ := (okB_iff s l).1 hok
  have key : ∀ (l : List Wr) (s : Int) (st : St), (∀ x ∈ l, longW x = false) → 0 ≤ st.room → st.room ≤ ((rowsOf s l).foldl stI st).room ∧ ((rowsOf s l).foldl stI st).room ≤ st.room + l.length * 2584 := by
    intro l
    induction l with
    | nil => intro s st _ h0; simp [rowsOf]
    | cons x l ih =>
      intro s st hm h0
      have hx := hm x (by simp)
      simp only [longW, Bool.or_eq_false_iff, decide_eq_false_iff_not] at hx
      have := ih (s + 1) (stI st (rowOf s x)) (fun y hy => hm y (by simp [hy])) (by simp only [stI, rowOf]; omega)
      simp only [rowsOf, List.foldl_cons, List.length_cons, stI, rowOf] at this ⊢
      omega
  have := key l s st hlong h.1
  unfold Sm at *
  omega

/-- What Add leaves. -/
def AddP (w : World) (B : Nat) (R : List Rw) (st : St) (ns : List Nd) (wr : World) (s : Int) (l : List Wr) (W : World) : Prop :=
  ∃ ns', TK w B (R ++ rowsOf s l) ((rowsOf s l).foldl stI st) ns' W ∧ Grew wr B ns ns' ∧ Off (blks B ns) wr W ∧ Below w.heap.size w W
theorem add_tk {w wr : World} {B : Nat} {R : List Rw} {st : St} {m : Nat} {ns : List Nd} (h : TK w B R st ns wr) (hb : Below w.heap.size w wr) (hm : Sm st m) (hm2 : m ≤ 1048576) (A : Option Addr) (c : Nat) (s : Int) (l : List Wr) (AH : Option Addr) (cH : Nat) (hl : List Int)
    (hlen : R.length ≤ 2147483648) (hW : Wrs wr A l) (hok : okB s l = true) (hfresh : ∀ r ∈ R, ∀ x ∈ rowsOf s l, r.seq ≠ x.seq)
    (hH : ∀ W, Off (blks B ns) wr W → Ints_ W AH hl) (hH1 : ∀ x ∈ hl, -9223372036854775808 ≤ x ∧ x ≤ 9223372036854775807) (hH2 : hl.length ≤ 4294967296) :
    Calls Try.prog 24 #[.pointer (some ⟨B, 0, none⟩), .agg #[.int .u64 s, .slice A l.length c], .slice AH hl.length cH] wr fun e W => e = .returned (.int .i64 0) ∧ AddP w B R st ns wr s l W := by
  have hl1 := h.len
  obtain ⟨hm0, hm1⟩ := hm
  refine (add_any wr B st ns A c s l AH cH hl h.tb (by omega) hW hok (fun r hr => hfresh r (h.perm.mem_iff.1 hr)) hH hH1 hH2 hm0 (by omega)).mono ?_
  rintro e W ⟨rfl, ns', h1, h2, h3, h4⟩
  refine ⟨rfl, ns', ⟨h1, h2.trans (List.Perm.append_right _ h.perm), fun b hb' => ?_⟩, h3, h4, h4.below hb.size h.ge |> hb.trans⟩
  rcases h3 b hb' with hb' | hb'
  · exact h.ge b hb'
  · exact Nat.le_trans hb.size hb'
theorem new_tk (w wr : World) (hb : w.heap.size ≤ wr.heap.size) :
    Calls Try.prog 23 #[] wr fun e W => e = .returned (.pointer (some ⟨wr.heap.size, 0, none⟩)) ∧ TK w wr.heap.size [] ⟨0, 0, 0⟩ [] W ∧ Below wr.heap.size wr W ∧ W.heap.size = wr.heap.size + 1 := by
  refine (new_any wr).mono ?_
  rintro e W ⟨rfl, h1, h2, h3⟩
  refine ⟨rfl, ⟨h1, List.Perm.refl _, fun b hb' => ?_⟩, h2, h3⟩
  rcases hb' with rfl | hb'
  · exact hb
  · simp at hb'
theorem get_tk {w wr : World} {B : Nat} {R : List Rw} {st : St} {ns : List Nd} (h : TK w B R st ns wr) (hlen : R.length ≤ 2147483648) (key : ByteArray) (n : Int) :
    Calls Try.prog 25 #[.pointer (some ⟨B, 0, none⟩), .string key, .int .u64 n] wr fun e w' => e = .returned (seekV (getR (rs ns) key n)) ∧ Below wr.heap.size wr w' := by
  have hl1 := h.len
  exact get_any wr B _ _ _ ns key n h.tb (by omega)
theorem rows_tk {w wr : World} {B : Nat} {R : List Rw} {st : St} {ns : List Nd} (h : TK w B R st ns wr) (hlen : R.length ≤ 2147483648) :
    Calls Try.prog 26 #[.pointer (some ⟨B, 0, none⟩)] wr (OwnRows wr (rs ns)) := by
  have hl1 := h.len
  exact trows_any wr B _ _ _ ns h.tb (by omega)
end Go.Proofs.Ythhdameaihclmaa
