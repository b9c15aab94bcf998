/- A table's own cells beside its list, and what a row adds to them. Conditions: none. -/
import Derived.Test.YthhdameaihclmaaMr
import Derived.Test.YthhdameaihclmaaMg
import Derived.Test.YthhdameaihclmaaMh
namespace Go.Proofs.Ythhdameaihclmaa
open Go.RowKit Sk

/-- Room, least and greatest of a table. -/
structure St where
  room : Int
  least : Int
  greatest : Int
def stI (st : St) (r : Rw) : St := ⟨st.room + ((r.key.size : Int) + (r.val.size : Int) + 16), min (if st.least = 0 then r.seq else st.least) r.seq, max st.greatest r.seq⟩
def stR (st : St) : Array Value := #[.bool true, .int .i64 st.room, .int .u64 st.least, .int .u64 st.greatest]
def TB (w : World) (B : Nat) (st : St) (ns : List Nd) : Prop := SL w B 85 (stR st) ns

theorem headC_setRest (f : Nat → Option Addr) (a b : Nat) (rest : Array Value) (i : Nat) (v : Value) : (headC f a b rest).setIfInBounds (18 + i) v = headC f a b (rest.setIfInBounds i v) := by
  unfold headC
  rw [Array.setIfInBounds_append_right (by simp [nodeC]; omega)]
  congr 1
  rw [Array.setIfInBounds_append_right (by simp [nodeC]; omega)]
  congr 1
  simp [nodeC]
  rw [show 18 + i - 16 - 2 = i by omega]
theorem SL.setRest {w : World} {B T : Nat} {rest : Array Value} {ns : List Nd} (h : SL w B T rest ns) (i : Nat) (v : Value) : SL (w.setCell ⟨B, 18 + i, none⟩ v) B T (rest.setIfInBounds i v) ns := by
  refine ⟨by rw [heap_setCell_same _ _ _ _ _ _ h.head, headC_setRest], fun q n hq => ?_, h.ord, h.hgt, h.wf, h.nodup⟩
  have hne : n.blk ≠ B := h.ne_head (List.mem_of_getElem? hq)
  exact (Below.heap_setCell w _ _ n.blk hne).trans (h.nodes q n hq)
theorem SL.typ' {W : World} {B T : Nat} {rest : Array Value} {ns : List Nd} (h : SL W B T rest ns) {b t : Nat} {c : Array Value} (hb : W.heap[b]? = some (.cells c t (0, 0))) (ht : t ≠ 31) (ht' : t ≠ T) : ¬ blks B ns b := by
  rintro (rfl | hm)
  · rw [h.head] at hb
    injection hb with hb; injection hb with _ hb
    exact ht' hb.symm
  · obtain ⟨n, hn, rfl⟩ := List.mem_map.1 hm
    obtain ⟨q, hq⟩ := List.mem_iff_getElem?.1 hn
    rw [h.nodes q n hq] at hb
    injection hb with hb; injection hb with _ hb
    exact ht hb.symm
theorem TB.cells {w : World} {B : Nat} {st : St} {ns : List Nd} (h : TB w B st ns) :
    (w.cell? ⟨B, 18, none⟩ = some (.bool true) ∧ w.cell? ⟨B, 19, none⟩ = some (.int .i64 st.room) ∧ w.cell? ⟨B, 20, none⟩ = some (.int .u64 st.least) ∧ w.cell? ⟨B, 21, none⟩ = some (.int .u64 st.greatest)) ∧
    w.frozen? ⟨B, 19, none⟩ = false ∧ w.frozen? ⟨B, 20, none⟩ = false ∧ w.frozen? ⟨B, 21, none⟩ = false :=
  ⟨tab_cells h, free_of h.head _, free_of h.head _, free_of h.head _⟩
theorem mem_insN {ns : List Nd} {e : Nat} {m n : Nd} (h : n ∈ insN ns e m) : n = m ∨ n ∈ ns := by
  unfold insN at h
  rcases List.mem_append.1 h with h | h
  · exact .inr (List.mem_of_mem_take h)
  · rcases List.mem_cons.1 h with h | h
    · exact .inl h
    · exact .inr (List.mem_of_mem_drop h)
theorem blks_ins {B : Nat} {ns : List Nd} {e : Nat} {m : Nd} {b : Nat} (h : blks B (insN ns e m) b) : b = m.blk ∨ blks B ns b := by
  rcases h with h | h
  · exact .inr (.inl h)
  · obtain ⟨n, hn, rfl⟩ := List.mem_map.1 h
    rcases mem_insN hn with rfl | hn
    · exact .inl rfl
    · exact .inr (.inr (List.mem_map.2 ⟨n, hn, rfl⟩))
theorem Off.mono {S S' : Nat → Prop} {w w' : World} (h : Off S w w') (hs : ∀ b, b < w.heap.size → S b → S' b) : Off S' w w' :=
  ⟨h.os, h.tape, h.output, h.size, fun k hk hn => h.block k hk fun hS => hn (hs k hk hS)⟩
/-- What the table's blocks may have become: the elder ones, and new ones. -/
def Grew (w : World) (B : Nat) (ns ns' : List Nd) : Prop := ∀ b, blks B ns' b → blks B ns b ∨ w.heap.size ≤ b
theorem Off.step {w a b : World} {B : Nat} {ns ns' : List Nd} (h : Off (blks B ns) w a) (hg : Grew w B ns ns') (k : Off (blks B ns') a b) : Off (blks B ns) w b :=
  ⟨k.os.trans h.os, k.tape.trans h.tape, k.output.trans h.output, Nat.le_trans h.size k.size, fun i hi hs =>
    (k.block i (Nat.lt_of_lt_of_le hi h.size) fun hb => by
      rcases hg i hb with hb | hb
      · exact hs hb
      · omega).trans (h.block i hi hs)⟩
end Go.Proofs.Ythhdameaihclmaa
