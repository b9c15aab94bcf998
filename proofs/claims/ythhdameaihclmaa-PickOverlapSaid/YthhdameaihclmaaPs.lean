/- The list and the document's list side by side, and what a Put does to each. Condition: at most 2^32 rows. -/
import Derived.Test.YthhdameaihclmaaFr
import Derived.Test.YthhdameaihclmaaRp
namespace Go.Proofs.Ythhdameaihclmaa
open Go.RowKit Sk

/-- The list (nodes ns) and the document's list (rows l, heights hl) side by side. -/
structure PS (w : World) (ns : List Nd) (l : List Rw) (hl : List Nat) (W : World) : Prop where
  sl : SL W w.heap.size 33 #[] ns
  len : hl.length = l.length
  own : ∃ vR vH, W.heap[w.heap.size + 1]? = some (.cells #[vR, vH] 37 (0, 0)) ∧ W.ownsRow w.heap.size 27 4 vR l.length (flat l) ∧ W.ownsRow w.heap.size 3 1 vH hl.length (flatI hl)
  below : Below w.heap.size w W
  ge : ∀ b, blks w.heap.size ns b → w.heap.size ≤ b
theorem PS.ref {w W : World} {ns : List Nd} {l : List Rw} {hl : List Nat} (h : PS w ns l hl W) :
    ∃ A c A' c', W.heap[w.heap.size + 1]? = some (.cells #[.slice A l.length c, .slice A' l.length c'] 37 (0, 0)) ∧ Rows_ W A l ∧ Ints_ W A' (ints hl) ∧
    W.ownsRow w.heap.size 27 4 (.slice A l.length c) l.length (flat l) ∧ W.ownsRow w.heap.size 3 1 (.slice A' l.length c') l.length (flatI hl) := by
  obtain ⟨vR, vH, h1, h2, h3⟩ := h.own
  obtain ⟨A, c, rfl, r1⟩ := rows_of_own h2 rfl
  obtain ⟨A', c', rfl, r2⟩ := ints_of_own h3 rfl
  rw [h.len] at h1 h3
  exact ⟨A, c, A', c', h1, r1, r2, h2, h3⟩
theorem own_off {S : Nat → Prop} {w w' : World} {n₀ e sz n : Nat} {v : Value} {xs : List Value} (h : w.ownsRow n₀ e sz v n xs) (ho : Off S w w') (hS : ∀ g, v.ownBlock = some g → ¬ S g) : w'.ownsRow n₀ e sz v n xs := by
  refine ⟨h.1, ?_⟩
  rcases h.2 with hn | ⟨g, cap, cur, rfl, hb, hg, r⟩
  · exact .inl hn
  · exact .inr ⟨g, cap, cur, rfl, hb, (ho.block g (Array.getElem?_eq_some_iff.1 hg).1 (hS g rfl)).trans hg, r⟩
theorem own_at {w : World} {n₀ e sz n : Nat} {v : Value} {xs : List Value} (h : w.ownsRow n₀ e sz v n xs) (g : Nat) (hg : v.ownBlock = some g) : ∃ cur, w.heap[g]? = some (.cells cur e (0, 0)) := by
  rcases h.2 with ⟨rfl, _⟩ | ⟨g', cap, cur, rfl, _, hh, _⟩
  · simp [Value.ownBlock] at hg
  · obtain rfl : g' = g := by simpa [Value.ownBlock] using hg
    exact ⟨cur, hh⟩
theorem SL.typ {W : World} {B : Nat} {ns : List Nd} (h : SL W B 33 #[] ns) {b t : Nat} {c : Array Value} (hb : W.heap[b]? = some (.cells c t (0, 0))) (ht : t ≠ 31) (ht' : t ≠ 33) : ¬ blks B ns b := by
  rintro (rfl | hm)
  · rw [h.head] at hb
    injection hb with hb; injection hb with _ hb
    exact ht' hb.symm
  · obtain ⟨n, hn, rfl⟩ := List.mem_map.1 hm
    obtain ⟨q, hq⟩ := List.mem_iff_getElem?.1 hn
    rw [h.nodes q n hq] at hb
    injection hb with hb; injection hb with _ hb
    exact ht hb.symm
theorem PS.on {w W W' : World} {ns : List Nd} {l : List Rw} {hl : List Nat} (h : PS w ns l hl W) (hb : Below W.heap.size W W') : PS w ns l hl W' := by
  obtain ⟨vR, vH, h1, h2, h3⟩ := h.own
  have g : Off (fun _ => False) W W' := Off.of_below hb
  exact ⟨h.sl.below hb, h.len, ⟨vR, vH, heap_on hb h1, own_off h2 g (fun _ _ h => h), own_off h3 g (fun _ _ h => h)⟩, h.below.trans (hb.mono h.below.size), h.ge⟩
theorem PS.start (w : World) : PS w [] [] [] ((w.alloc (.cells listZ 33)).alloc (.cells #[.slice none 0 0, .slice none 0 0] 37)) := by
  have hb : Below (w.alloc (.cells listZ 33)).heap.size (w.alloc (.cells listZ 33)) ((w.alloc (.cells listZ 33)).alloc (.cells #[.slice none 0 0, .slice none 0 0] 37)) := (Below.refl _ _).alloc (Nat.le_refl _) _
  refine ⟨(SL.zero w).below hb, rfl, ⟨_, _, ?_, World.ownsRow_nil _ _ _ _, World.ownsRow_nil _ _ _ _⟩, ((Below.refl _ _).alloc (Nat.le_refl _) _).alloc (by simp) _, fun b hb => ?_⟩
  · have := heap_alloc_new (w.alloc (.cells listZ 33)) (.cells #[.slice none 0 0, .slice none 0 0] 37)
    rwa [World.size_alloc] at this
  · rcases hb with rfl | hb
    · exact Nat.le_refl _
    · simp at hb

/-- What a Put comes to. -/
def nextL (l : List Rw) (r : Rw) : List Rw := if thereB l r.key r.seq then l else ins l (place l r.key r.seq) r
def nextH (l : List Rw) (hl : List Nat) (r : Rw) (x : Nat) : List Nat := if thereB l r.key r.seq then hl else insH hl (place l r.key r.seq) x

theorem put_ps {w W : World} {ns : List Nd} {l : List Rw} {hl : List Nat} (P : PS w ns l hl W) (r : Rw) (hgt : Int) (hlen : ns.length ≤ 4294967296) (hw : 0 ≤ r.seq ∧ r.seq ≤ 18446744073709551615) (hg1 : -9223372036854775808 ≤ hgt) (hg2 : hgt ≤ 9223372036854775807) :
    Calls Try.prog 9 #[.pointer (some ⟨w.heap.size, 0, none⟩), .agg #[.string r.key, .int .u64 r.seq, .int .i64 r.kind, .string r.val], .int .i64 hgt] W fun e W' =>
      e = .returned (.bool (!thereB (rs ns) r.key r.seq)) ∧ (∃ ns', rs ns' = nextL (rs ns) r ∧ hs ns' = nextH (rs ns) (hs ns) r (clampH hgt) ∧ ns'.length ≤ ns.length + 1 ∧ PS w ns' l hl W') ∧
      (∀ (b t : Nat) (c : Array Value), W.heap[b]? = some (.cells c t (0, 0)) → t ≠ 31 → t ≠ 33 → W'.heap[b]? = some (.cells c t (0, 0))) := by
  have hrs : ∀ q : Nat, (rs ns)[q]? = (ns[q]?).map Nd.row := fun q => by simp [rs]
  cases ht : thereB (rs ns) r.key r.seq with
  | true =>
    have : ∃ n, ns[place (rs ns) r.key r.seq]? = some n ∧ at_ n.row r.key r.seq = true := by
      unfold thereB at ht
      rw [hrs] at ht
      cases hn : ns[place (rs ns) r.key r.seq]? with
      | none => rw [hn] at ht; simp at ht
      | some n => rw [hn] at ht; exact ⟨n, rfl, by simpa using ht⟩
    obtain ⟨n, hn, hat⟩ := this
    refine (put_there W _ 33 #[] ns r hgt P.sl hlen n hn hat).mono fun e W' ⟨h1, h2⟩ => ⟨h1, ⟨ns, by simp [nextL, ht], by simp [nextH, ht], by omega, P.on h2⟩, fun b t c hb _ _ => heap_on h2 hb⟩
  | false =>
    have hn : ∀ n, ns[place (rs ns) r.key r.seq]? = some n → at_ n.row r.key r.seq = false := fun n hn => by
      unfold thereB at ht
      rw [hrs, hn] at ht
      simpa using ht
    have hpl : place (rs ns) r.key r.seq ≤ ns.length := by have := place_le (rs ns) r.key r.seq; simpa [rs] using this
    refine (put_at W _ 33 #[] ns r hgt _ P.sl hlen rfl hn hw hg1 hg2 w.heap.size P.below.size P.ge).mono fun e W' ⟨h1, g, h2, h3, h4, h5, h6⟩ => ?_
    have hk : ∀ (b t : Nat) (c : Array Value), W.heap[b]? = some (.cells c t (0, 0)) → t ≠ 31 → t ≠ 33 → W'.heap[b]? = some (.cells c t (0, 0)) := fun b t c hb t1 t2 =>
      (h4.block b (Array.getElem?_eq_some_iff.1 hb).1 (P.sl.typ hb t1 t2)).trans hb
    obtain ⟨vR, vH, o1, o2, o3⟩ := P.own
    refine ⟨h1, ⟨_, by rw [rs_ins]; simp [nextL, ht], by rw [hs_ins]; simp [nextH, ht, insH], by rw [insN_len _ _ _ hpl]; omega, ⟨h2, P.len, ⟨vR, vH, hk _ _ _ o1 (by decide) (by decide), ?_, ?_⟩, P.below.trans h3, h6⟩⟩, hk⟩
    · exact own_off o2 h4 fun g hg => by
        obtain ⟨cur, hc⟩ := own_at o2 g hg
        exact P.sl.typ hc (by decide) (by decide)
    · exact own_off o3 h4 fun g hg => by
        obtain ⟨cur, hc⟩ := own_at o3 g hg
        exact P.sl.typ hc (by decide) (by decide)

theorem putR_ps {w W : World} {ns : List Nd} {l : List Rw} {hl : List Nat} (P : PS w ns l hl W) (r : Rw) (hgt : Int) (hlen : l.length ≤ 4294967296) (hg1 : -9223372036854775808 ≤ hgt) (hg2 : hgt ≤ 9223372036854775807) :
    Calls Try.prog 10 #[.pointer (some ⟨w.heap.size + 1, 0, none⟩), .agg #[.string r.key, .int .u64 r.seq, .int .i64 r.kind, .string r.val], .int .i64 hgt] W fun e W' =>
      e = .returned (.bool (!thereB l r.key r.seq)) ∧ PS w ns (nextL l r) (nextH l hl r (clampH hgt)) W' ∧
      (∀ (b t : Nat) (c : Array Value), W.heap[b]? = some (.cells c t (0, 0)) → t ≠ 37 → W'.heap[b]? = some (.cells c t (0, 0))) := by
  obtain ⟨A, c, A', c', h1, h2, h3, h4, h5⟩ := P.ref
  cases ht : thereB l r.key r.seq with
  | true =>
    refine (putR_there W _ A A' c c' l r hgt h1 h2 hlen ht).mono fun e W' ⟨a1, a2⟩ => ⟨a1, ?_, fun b t c hb _ => heap_on a2 hb⟩
    rw [nextL, nextH, if_pos ht, if_pos ht]
    exact P.on a2
  | false =>
    refine (putR_new W _ A A' c c' l hl r hgt h1 h2 h3 P.len hlen ht hg1 hg2).mono fun e W' ⟨a1, vR, vH, b1, b2, b3, b4⟩ => ?_
    have hpl := place_le l r.key r.seq
    have hk : ∀ (b t : Nat) (c : Array Value), W.heap[b]? = some (.cells c t (0, 0)) → t ≠ 37 → W'.heap[b]? = some (.cells c t (0, 0)) := fun b t c hb t1 =>
      (b4.block b (Array.getElem?_eq_some_iff.1 hb).1 (fun e1 => by subst e1; rw [h1] at hb; injection hb with hb; injection hb with _ hb; exact t1 hb.symm)).trans hb
    refine ⟨a1, ?_, hk⟩
    rw [nextL, nextH, if_neg (by rw [ht]; simp), if_neg (by rw [ht]; simp)]
    have e1 : (ins l (place l r.key r.seq) r).length = l.length + 1 := by simp [ins]; omega
    have e2 : (insH hl (place l r.key r.seq) (clampH hgt)).length = l.length + 1 := by have := P.len; simp [insH]; omega
    refine ⟨P.sl.keep fun b hb => ?_, by rw [e1, e2], ⟨vR, vH, b1, by rw [e1]; exact own_mono b2 P.below.size, by rw [e2]; exact own_mono b3 P.below.size⟩, ?_, P.ge⟩
    · refine b4.block b (P.sl.lt hb) fun e1 => ?_
      subst e1
      exact P.sl.typ h1 (by decide) (by decide) hb
    · exact P.below.trans (b4.below P.below.size (fun k hk => by omega))
end Go.Proofs.Ythhdameaihclmaa
