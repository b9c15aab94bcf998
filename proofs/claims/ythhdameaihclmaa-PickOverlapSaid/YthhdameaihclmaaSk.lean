/- The skip list in memory, and what a search of it finds. Condition: at most 2^32 rows. -/
import Derived.Test.YthhdameaihclmaaRows
import Derived.Test.YthhdameaihclmaaPl
import Derived.WalkKit
import Derived.WalkSpells
import Derived.WalkLawsBesides
import Derived.Lib.Hide
import Derived.Deep.QuietTactic
import Derived.BigQuiet
import Derived.Deep.MidRow
namespace Go.Proofs.Ythhdameaihclmaa
open Go.RowKit Sk

/-! ## the list in memory -/
structure Nd where
  blk : Nat
  row : Rw
  h : Nat

def nx (i : Nat) : List Nd → Option Addr
  | [] => none
  | n :: ns => if i < n.h then some ⟨n.blk, 0, none⟩ else nx i ns

def nodeC (r : Rw) (f : Nat → Option Addr) : Array Value :=
  #[.string r.key, .int .u64 r.seq, .int .i64 r.kind, .string r.val, .pointer (f 0), .pointer (f 1), .pointer (f 2), .pointer (f 3), .pointer (f 4), .pointer (f 5),
    .pointer (f 6), .pointer (f 7), .pointer (f 8), .pointer (f 9), .pointer (f 10), .pointer (f 11)]
def ptrs (f : Nat → Option Addr) : Array Value :=
  #[.pointer (f 0), .pointer (f 1), .pointer (f 2), .pointer (f 3), .pointer (f 4), .pointer (f 5),
    .pointer (f 6), .pointer (f 7), .pointer (f 8), .pointer (f 9), .pointer (f 10), .pointer (f 11)]
def rw0 : Rw := ⟨.empty, 0, 0, .empty⟩
def headC (f : Nat → Option Addr) (len hgt : Nat) (rest : Array Value) : Array Value := nodeC rw0 f ++ (#[.int .i64 len, .int .i64 hgt] ++ rest)
def hs (ns : List Nd) : List Nat := ns.map Nd.h
def rs (ns : List Nd) : List Rw := ns.map Nd.row
def mxh (ns : List Nd) : Nat := (hs ns).foldl max 0
def lk (ns : List Nd) (q : Nat) (n : Nd) (i : Nat) : Option Addr := if i < n.h then nx i (ns.drop (q + 1)) else none
def blkAt (B : Nat) (ns : List Nd) : Nat → Nat
  | 0 => B
  | q + 1 => match ns[q]? with | some n => n.blk | none => B

structure SL (w : World) (B T : Nat) (rest : Array Value) (ns : List Nd) : Prop where
  head : w.heap[B]? = some (.cells (headC (nx · ns) ns.length (mxh ns) rest) T (0, 0))
  nodes : ∀ (q : Nat) (n : Nd), ns[q]? = some n → w.heap[n.blk]? = some (.cells (nodeC n.row (lk ns q n)) 31 (0, 0))
  ord : Ord (rs ns)
  hgt : ∀ n ∈ ns, 1 ≤ n.h ∧ n.h ≤ 12
  wf : ∀ n ∈ ns, 0 ≤ n.row.seq ∧ n.row.seq ≤ 18446744073709551615
  nodup : (B :: ns.map Nd.blk).Nodup

theorem SL.keep {w w' : World} {B T : Nat} {rest : Array Value} {ns : List Nd} (h : SL w B T rest ns) (hk : ∀ b, b = B ∨ b ∈ ns.map Nd.blk → w'.heap[b]? = w.heap[b]?) : SL w' B T rest ns :=
  ⟨(hk B (.inl rfl)).trans h.head, fun q n hq => (hk _ (.inr (List.mem_map.2 ⟨n, List.mem_of_getElem? hq, rfl⟩))).trans (h.nodes q n hq), h.ord, h.hgt, h.wf, h.nodup⟩
theorem SL.lt {w : World} {B T : Nat} {rest : Array Value} {ns : List Nd} (h : SL w B T rest ns) {b : Nat} (hb : b = B ∨ b ∈ ns.map Nd.blk) : b < w.heap.size := by
  rcases hb with rfl | hb
  · exact (Array.getElem?_eq_some_iff.1 h.head).1
  · obtain ⟨n, hn, rfl⟩ := List.mem_map.1 hb
    obtain ⟨q, hq⟩ := List.mem_iff_getElem?.1 hn
    exact (Array.getElem?_eq_some_iff.1 (h.nodes q n hq)).1
theorem SL.below {w w' : World} {B T : Nat} {rest : Array Value} {ns : List Nd} (h : SL w B T rest ns) (hb : Below w.heap.size w w') : SL w' B T rest ns :=
  h.keep fun b hb' => hb.block b (h.lt hb')

theorem nx_drop (ns : List Nd) (i p : Nat) (hp : p ≤ ns.length) :
    (nx i (ns.drop p) = none ∧ ∀ q, p ≤ q → q < ns.length → ¬ i < (hs ns).getD q 0) ∨
    ∃ q n, ns[q]? = some n ∧ p ≤ q ∧ i < (hs ns).getD q 0 ∧ (∀ x, p ≤ x → x < q → ¬ i < (hs ns).getD x 0) ∧ nx i (ns.drop p) = some ⟨n.blk, 0, none⟩ := by
  obtain ⟨d, hd⟩ : ∃ d, ns.length - p = d := ⟨_, rfl⟩
  induction d generalizing p with
  | zero =>
    have e : p = ns.length := by omega
    subst e
    refine .inl ⟨by simp [nx], fun q h1 h2 => by omega⟩
  | succ d ih =>
    have hlt : p < ns.length := by omega
    have hg : (hs ns).getD p 0 = ns[p].h := by simp [hs, hlt]
    rw [List.drop_eq_getElem_cons hlt]
    by_cases hc : i < ns[p].h
    · exact .inr ⟨p, ns[p], List.getElem?_eq_getElem hlt, Nat.le_refl _, by rw [hg]; exact hc, fun x h1 h2 => by omega, by simp [nx, hc]⟩
    · have e : nx i (ns[p] :: ns.drop (p + 1)) = nx i (ns.drop (p + 1)) := by simp [nx, hc]
      rw [e]
      rcases ih (p + 1) (by omega) (by omega) with ⟨h1, h2⟩ | ⟨q, n, h1, h2, h3, h4, h5⟩
      · refine .inl ⟨h1, fun q ha hb => ?_⟩
        rcases Nat.lt_or_ge p q with h | h
        · exact h2 q h hb
        · have : q = p := by omega
          rw [this, hg]; exact hc
      · refine .inr ⟨q, n, h1, by omega, h3, fun x ha hb => ?_, h5⟩
        rcases Nat.lt_or_ge p x with h | h
        · exact h4 x h hb
        · have : x = p := by omega
          rw [this, hg]; exact hc

theorem nodeC_link (r : Rw) (f : Nat → Option Addr) (i : Nat) (hi : i < 12) : (nodeC r f)[4 + i]? = some (.pointer (f i)) := by
  match i, hi with
  | 0, _ => rfl | 1, _ => rfl | 2, _ => rfl | 3, _ => rfl | 4, _ => rfl | 5, _ => rfl | 6, _ => rfl | 7, _ => rfl | 8, _ => rfl | 9, _ => rfl | 10, _ => rfl | 11, _ => rfl
theorem headC_link (f : Nat → Option Addr) (a b : Nat) (rest : Array Value) (i : Nat) (hi : i < 12) : (headC f a b rest)[4 + i]? = some (.pointer (f i)) := by
  unfold headC
  rw [Array.getElem?_append_left (by simp [nodeC]; omega)]
  exact nodeC_link _ f i hi
theorem ptrs_congr {f g : Nat → Option Addr} (h : ∀ i, i < 12 → f i = g i) : ptrs f = ptrs g := by
  unfold ptrs
  rw [h 0 (by omega), h 1 (by omega), h 2 (by omega), h 3 (by omega), h 4 (by omega), h 5 (by omega), h 6 (by omega), h 7 (by omega), h 8 (by omega), h 9 (by omega), h 10 (by omega), h 11 (by omega)]
theorem ptrs_get (f : Nat → Option Addr) (i : Nat) (hi : i < 12) : (ptrs f)[i]? = some (.pointer (f i)) := by
  match i, hi with
  | 0, _ => rfl | 1, _ => rfl | 2, _ => rfl | 3, _ => rfl | 4, _ => rfl | 5, _ => rfl | 6, _ => rfl | 7, _ => rfl | 8, _ => rfl | 9, _ => rfl | 10, _ => rfl | 11, _ => rfl
theorem ptrs_set (f : Nat → Option Addr) (i : Nat) (hi : i < 12) (p : Option Addr) : (ptrs f).setIfInBounds i (.pointer p) = ptrs (fun j => if j = i then p else f j) := by
  match i, hi with
  | 0, _ => rfl | 1, _ => rfl | 2, _ => rfl | 3, _ => rfl | 4, _ => rfl | 5, _ => rfl | 6, _ => rfl | 7, _ => rfl | 8, _ => rfl | 9, _ => rfl | 10, _ => rfl | 11, _ => rfl

theorem cell_of {w : World} {g T : Nat} {cs : Array Value} (h : w.heap[g]? = some (.cells cs T (0, 0))) (i : Nat) : w.cell? ⟨g, i, none⟩ = cs[i]? := cell_of_row w g i cs T (0, 0) h
theorem free_of {w : World} {g T : Nat} {cs : Array Value} (h : w.heap[g]? = some (.cells cs T (0, 0))) (i : Nat) : w.frozen? ⟨g, i, none⟩ = false := by
  simp [World.frozen?, h]

section
variable {w : World} {B T : Nat} {rest : Array Value} {ns : List Nd}
theorem hs_get {q : Nat} {n : Nd} (h : ns[q]? = some n) : (hs ns).getD q 0 = n.h := by simp [hs, h]
/-- The link of level i at a position, where that position's node has that level. -/
theorem SL.link (h : SL w B T rest ns) {p i : Nat} (hp : p ≤ ns.length) (hi : i < 12) (hl : p = 0 ∨ i < (hs ns).getD (p - 1) 0) :
    w.cell? ⟨blkAt B ns p, 4 + i, none⟩ = some (.pointer (nx i (ns.drop p))) := by
  cases p with
  | zero => rw [blkAt, cell_of h.head, headC_link _ _ _ _ _ hi]; rfl
  | succ q =>
    have hq : ns[q]? = some ns[q] := List.getElem?_eq_getElem (by omega)
    have hh : i < ns[q].h := by
      rcases hl with hl | hl
      · omega
      · rw [Nat.add_sub_cancel, hs_get hq] at hl; exact hl
    simp only [blkAt, hq]
    rw [cell_of (h.nodes q _ hq), nodeC_link _ _ _ hi, lk, if_pos hh]
theorem SL.rowAt (h : SL w B T rest ns) {q : Nat} {n : Nd} (hq : ns[q]? = some n) :
    w.cell? ⟨n.blk, 0, none⟩ = some (.string n.row.key) ∧ w.cell? ⟨n.blk, 1, none⟩ = some (.int .u64 n.row.seq) ∧ w.cell? ⟨n.blk, 2, none⟩ = some (.int .i64 n.row.kind) ∧ w.cell? ⟨n.blk, 3, none⟩ = some (.string n.row.val) := by
  have e := cell_of (h.nodes q n hq)
  exact ⟨e 0, e 1, e 2, e 3⟩
end

set_option maxHeartbeats 400000 in
theorem ahead_any (r : Rw) (key : ByteArray) (seq : Int) (w : World) :
    Calls Try.prog 45 #[.agg #[.string r.key, .int .u64 r.seq, .int .i64 r.kind, .string r.val], .string key, .int .u64 seq] w fun e w' =>
      e = .returned (.bool (ah r key seq)) ∧ Below w.heap.size w w' := by
  obtain ⟨k, s, kd, v⟩ := r
  go_enter Try.func45, Try.ntmps45
  go_wp2
  all_goals
    go_ret
    refine ⟨?_, ((Below.refl _ _).alloc (Nat.le_refl _) _)⟩
    first | (simp [ah, *]; done) | (simp_all [ah, bl_eq, List.lt_irrefl])


theorem ahead_is {r : Rw} {key : ByteArray} {seq : Int} {b : Bool} (hb : ah r key seq = b) (w : World) :
    Calls Try.prog 45 #[.agg #[.string r.key, .int .u64 r.seq, .int .i64 r.kind, .string r.val], .string key, .int .u64 seq] w fun e w' =>
      e = .returned (.bool b) ∧ Below w.heap.size w w' := by
  subst hb; exact ahead_any r key seq w
/-- A cell that is there is there behind a call that makes memory alone. -/
theorem cell_on {w w' : World} {a : Addr} {v : Value} (hb : Below w.heap.size w w') (h : w.cell? a = some v) : w'.cell? a = some v :=
  (hb.cell (block_lt_of_cell h)).trans h
theorem heap_on {w w' : World} {g : Nat} {o : Obj} (hb : Below w.heap.size w w') (h : w.heap[g]? = some o) : w'.heap[g]? = some o :=
  (hb.block g (Array.getElem?_eq_some_iff.1 h).1).trans h
theorem below_step {n : Nat} {w a b : World} (h : Below n w a) (h2 : Below a.heap.size a b) (hn : n ≤ w.heap.size) : Below n w b := h.trans (h2.mono (Nat.le_trans hn h.size))

/-! ## storing back what is there -/
theorem setCell_id {w : World} {a : Addr} {v : Value} (h : w.cell? a = some v) : w.setCell a v = w := by
  have hh : w.heap.modify a.block (fun | .cells c elem frozen => .cells (if a.spot.isSome then c else c.setIfInBounds a.off v) elem frozen | o => o) = w.heap := by
    refine Array.ext_getElem? fun i => ?_
    rw [Array.getElem?_modify]
    split
    · rename_i e
      subst e
      unfold World.cell? at h
      cases hb : w.heap[a.block]? with
      | none => rfl
      | some o =>
        rw [hb] at h
        cases o with
        | cells c t f =>
          simp only [Option.map_some] at h ⊢
          split at h
          · cases h
          · rename_i hs
            rw [if_neg hs]
            congr 2
            refine Array.ext_getElem? fun j => ?_
            rw [Array.getElem?_setIfInBounds]
            split
            · rename_i e; subst e
              split
              · exact h.symm
              · rename_i hlt; exact (Array.getElem?_eq_none (by omega)).symm
            · rfl
        | _ => rfl
    · rfl
  exact congrArg (fun x => ({ w with heap := x } : World)) hh
theorem setCells_id {w : World} {b o : Nat} {vs : List Value} (h : w.rangeAt b o vs) : w.setCells b o vs = w := by
  induction vs generalizing o with
  | nil => rfl
  | cons v r ih =>
    rw [World.setCells, setCell_id (by simpa using h 0 v rfl)]
    exact ih fun j u hu => by have := h (j + 1) u (by simpa using hu); rwa [show o + (j + 1) = o + 1 + j by omega] at this
theorem range_row {w : World} {g t : Nat} {cs : Array Value} (h : w.heap[g]? = some (.cells cs t (0, 0))) : w.rangeAt g 0 cs.toList := fun j v hv => by
  rw [Nat.zero_add, cell_of h]; simpa using hv
theorem there_row {w : World} {g t : Nat} {cs : Array Value} (h : w.heap[g]? = some (.cells cs t (0, 0))) : w.there g 0 cs.size := fun j hj => by
  rw [Nat.zero_add, cell_of h, free_of h]; simp [hj]
theorem wpList_store_back {P : Program} {ops : Array Oper} {rest : List Oper} {op : Oper} {a : Act} {w : World} {Q : Exit → Act → World → Prop} (hgd : op.guard = none) (ty : TypeId) (x y : Operand) (ho : op.op = .store ty x y)
    (b t : Nat) (cells : Array Value) (hx : a.eval x = .pointer (some ⟨b, 0, none⟩)) (hy : a.eval y = .agg cells) (hg : w.heap[b]? = some (.cells cells t (0, 0)))
    (hi : (P.info? ty).map (·.size) = some cells.size) (h1 : cells.all (·.oneCell') = true)
    (h : wpList P ops Q rest (a.put op.dst undef) w) : wpList P ops Q (op :: rest) a w :=
  wpList_store_mid hgd ty x y ho b 0 cells hx hy (there_row hg) hi h1 (by rw [setCells_id (range_row hg)]; exact h)
theorem ptrs_one (f : Nat → Option Addr) : (ptrs f).all (·.oneCell') = true := by simp [ptrs, Value.oneCell']
theorem Try.size29 : (Try.prog.info? 29).map (·.size) = some 12 := by kernel_rfl

theorem results_cell_tmp {P : Program} {fn : Func} {p t : Tmp} {ty : TypeId} (h : fn.results = #[.cell p ty, .tmp t]) (tmps : Array Value) (w : World) (g : Nat) (T : TypeId) (cs : Array Value) (fr : Nat × Nat) (d : TypeDesc)
    (hp : tmps.getD p undef = .pointer (some ⟨g, 0, none⟩)) (hg : w.heap[g]? = some (.cells cs T fr))
    (hu : P.underlying ty = some d) (hd : (match d with | .struct _ | .array _ _ => true | _ => false) = true) (hi : (P.info? ty).map (·.size) = some cs.size) :
    (results fn tmps).run P w = .ok (.tuple #[.agg cs, tmps.getD t undef]) w := by
  have hp' : tmps[p]?.getD undef = .pointer (some ⟨g, 0, none⟩) := by simpa using hp
  simp [results, h, hp', asAddr, run_loadVar_row w g T ty cs fr d hg hu hd hi]

/-- The array 'before', the levels from k on being done. -/
def bef (B : Nat) (ns : List Nd) (e k : Nat) : Array Value := ptrs fun i => if k ≤ i then some ⟨blkAt B ns (pos (hs ns) i e), 0, none⟩ else none
/-- The outer loop's state. -/
def SrO (w : World) (B : Nat) (ns : List Nd) (e : Nat) (c at_ i : Value) (wr : World) : Prop :=
  ∃ k : Nat, k ≤ 12 ∧ i = .int .i64 ((k : Int) - 1) ∧ at_ = .pointer (some ⟨blkAt B ns (pos (hs ns) k e), 0, none⟩) ∧ c = .int .i64 ((steps (hs ns) e k : Nat) : Int) ∧
    Below w.heap.size w wr ∧ wr.heap[w.heap.size]? = some (.cells (bef B ns e k) 29 (0, 0))
/-- The inner loop's state, at level j. -/
def SrI (w : World) (B : Nat) (ns : List Nd) (e j : Nat) (c at_ : Value) (wr : World) : Prop :=
  ∃ p c0 : Nat, p ≤ e ∧ at_ = .pointer (some ⟨blkAt B ns p, 0, none⟩) ∧ (p = 0 ∨ j < (hs ns).getD (p - 1) 0) ∧ fin (hs ns) j p e = pos (hs ns) j e ∧
    c = .int .i64 (c0 : Int) ∧ c0 + cnt (hs ns) j p e = steps (hs ns) e j ∧
    Below w.heap.size w wr ∧ wr.heap[w.heap.size]? = some (.cells (bef B ns e (j + 1)) 29 (0, 0))
theorem bef_free (B : Nat) (ns : List Nd) (e j : Nat) (hj : j < 12) : (bef B ns e (j + 1))[j]? = some (.pointer none) := by
  rw [bef, ptrs_get _ _ hj, if_neg (by omega)]
theorem bef_set (B : Nat) (ns : List Nd) (e j : Nat) (hj : j < 12) : (bef B ns e (j + 1)).setIfInBounds j (.pointer (some ⟨blkAt B ns (pos (hs ns) j e), 0, none⟩)) = bef B ns e j := by
  unfold bef
  rw [ptrs_set _ _ hj]
  refine ptrs_congr fun i _ => ?_
  by_cases h1 : i = j
  · subst h1; rw [if_pos rfl, if_pos (Nat.le_refl _)]
  · rw [if_neg h1]
    by_cases h2 : j ≤ i
    · rw [if_pos h2, if_pos (by omega)]
    · rw [if_neg h2, if_neg (by omega)]
theorem hs_le {ns : List Nd} (hgt : ∀ n ∈ ns, 1 ≤ n.h ∧ n.h ≤ 12) : ∀ x ∈ hs ns, x ≤ 12 := by
  intro x hx
  obtain ⟨n, hn, rfl⟩ := List.mem_map.1 hx
  exact (hgt n hn).2

set_option maxHeartbeats 1000000 in
theorem search_any (w : World) (B T : Nat) (rest : Array Value) (ns : List Nd) (key : ByteArray) (seq : Int) (h : SL w B T rest ns) (hlen : ns.length ≤ 4294967296) :
    Calls Try.prog 31 #[.pointer (some ⟨B, 0, none⟩), .string key, .int .u64 seq] w fun e w' =>
      e = .returned (.tuple #[.agg (bef B ns (place (rs ns) key seq) 0), .int .i64 (steps (hs ns) (place (rs ns) key seq) 0 : Nat)]) ∧ Below w.heap.size w w' := by
  obtain ⟨e, he⟩ : ∃ e, place (rs ns) key seq = e := ⟨_, rfl⟩
  have HE := Lib.hid he
  have hel : e ≤ ns.length := by have := place_le (rs ns) key seq; simp only [rs, List.length_map] at this he; omega
  rw [he]
  clear he
  go_enter Try.func31, Try.ntmps31
  go_wp2
  go_loopw [7, 8, 9] (fun c at_ i wr => SrO w B ns e c at_ i wr) (fun _ _ i _ => (intOf i + 1).toNat)
  case atStart =>
    refine ⟨12, by omega, rfl, ?_, rfl, (Below.refl _ _).alloc (Nat.le_refl _) _, ?_⟩
    · rw [pos_top _ _ (hs_le h.hgt)]; rfl
    · exact heap_alloc_new w _
  case round =>
    obtain ⟨k, hk, rfl, rfl, rfl, hb, harr⟩ := hrel
    cases k with
    | zero =>
      go_wp2_with (first
        | (refine wpList_load_row rfl 29 _ rfl w.heap.size rfl 29 (bef B ns e 0) (0, 0) _ harr Try.underlying29 rfl Try.size29 ?_)
        | (refine wpList_store_back rfl 29 _ _ rfl w.heap.size 29 (bef B ns e 0) rfl rfl harr Try.size29 (ptrs_one _) ?_))
      exact bodyPost_ret (results_cell_tmp rfl _ _ w.heap.size 29 (bef B ns e 0) (0, 0) _ rfl harr Try.underlying29 rfl Try.size29) rfl ⟨rfl, hb⟩
    | succ j =>
      have ej : ((j + 1 : Nat) : Int) - 1 = (j : Int) := by omega
      rw [ej]
      clear ej
      obtain ⟨wo, rfl⟩ : ∃ wo : World, wo = wr := ⟨_, rfl⟩
      have hj : j < 12 := by omega
      have HS := Lib.hid (steps_down (hs ns) e j hj)
      have HP := Lib.hid (pos_down (hs ns) j e)
      have hc := fin_char (H := hs ns) (i := j + 1) (Nat.zero_le e)
      have hc1 : pos (hs ns) (j + 1) e = 0 ∨ j < (hs ns).getD (pos (hs ns) (j + 1) e - 1) 0 := by
        rcases hc.2.2.2 with h1 | h1
        · exact .inl h1
        · exact .inr (by unfold pos; omega)
      have HC1 := Lib.hid hc1
      clear hc hc1
      go_wp2
      go_loopw [7, 8] (fun c at_ wr => SrI w B ns e j c at_ wr) (fun c _ _ => steps (hs ns) e j - (intOf c).toNat)
      case atStart =>
        refine ⟨pos (hs ns) (j + 1) e, steps (hs ns) e (j + 1), pos_le _ _ _, rfl, HC1.out, HP.out, rfl, ?_, hb, harr⟩
        rw [HS.out]; omega
      case round =>
        obtain ⟨p, c0, hp, rfl, hpj, hfin, rfl, hcs, hb1, harr1⟩ := hrel
        have hlink := (h.below hb1).link (p := p) (i := j) (by omega) hj hpj
        have hcj : wr.cell? ⟨w.heap.size, j, none⟩ = some (.pointer none) := by rw [cell_of harr1]; exact bef_free B ns e j hj
        have hfj : wr.frozen? ⟨w.heap.size, j, none⟩ = false := free_of harr1 j
        have hcl := steps_le (hs ns) e j
        have hc0 : c0 ≤ 12 * e := by
          have h1 : (12 - j) * e ≤ 12 * e := Nat.mul_le_mul_right _ (by omega)
          omega
        clear hcl
        have HF := Lib.hid hfin
        have HCS := Lib.hid hcs
        have HPJ := Lib.hid hpj
        have HA := Lib.hid harr1
        clear hfin hcs hpj harr1
        rcases nx_drop ns j p (by omega) with ⟨hn, hno⟩ | ⟨q, n, hq, hpq, hjq, hno, hn⟩
        · rw [hn] at hlink
          have HN := Lib.hid hno
          clear hn hno
          go_wp2
          go_roundw
          case rel =>
            have hnil : lst (hs ns) j p e = [] := lst_none fun x h1 h2 => HN.out x h1 (by omega)
            have hpe : pos (hs ns) j e = p := by rw [← HF.out, fin_nil hnil]
            have hce : c0 = steps (hs ns) e j := by have h1 := HCS.out; have h2 := cnt_nil hnil; omega
            refine ⟨j, by omega, rfl, by rw [hpe], by rw [hce], hb1.setCell (p := ⟨w.heap.size, j, none⟩) (Nat.le_refl _) _, ?_⟩
            rw [heap_setCell_same _ _ _ _ _ _ HA.out, ← bef_set B ns e j hj, hpe]
          case measure => simp [intOf]
        · rw [hn] at hlink
          obtain ⟨hr0, hr1, hr2, hr3⟩ := (h.below hb1).rowAt hq
          have hql : q < ns.length := (List.getElem?_eq_some_iff.1 hq).1
          have hrq : (rs ns)[q]? = some n.row := by simp [rs, hq]
          have ha := ord_ah h.ord (k := key) (s := seq) hrq
          rw [HE.out] at ha
          have HN := Lib.hid hno
          have HQ := Lib.hid hq
          have HJQ := Lib.hid hjq
          clear hn hno hq hjq hrq
          by_cases hlt : q < e
          · rw [decide_eq_true hlt] at ha
            have HAQ := Lib.hid ha
            clear ha
            go_wp2_with (go_at_call 45; refine (ahead_is HAQ.out _).mono ?_; rintro e1 w1 ⟨rfl, hb2⟩; have hl1 := cell_on hb2 hlink)
            go_roundw
            case rel =>
              obtain ⟨e1, e2⟩ := fin_step hpq hlt HJQ.out HN.out
              refine ⟨q + 1, c0 + 1, by omega, ?_, .inr (by simpa using HJQ.out), ?_, by go_num, ?_, below_step hb1 hb2 (Nat.le_refl _), heap_on hb2 HA.out⟩
              · have hq' := HQ.out; simp only [blkAt, hq']
              · rw [← e1]; exact HF.out
              · have := HCS.out; omega
            case measure =>
              obtain ⟨e1, e2⟩ := fin_step hpq hlt HJQ.out HN.out
              have := HCS.out
              simp [intOf]; omega
          · rw [decide_eq_false hlt] at ha
            have HAQ := Lib.hid ha
            clear ha
            go_wp2_with (go_at_call 45; refine (ahead_is HAQ.out _).mono ?_; rintro e1 w1 ⟨rfl, hb2⟩; have hc1 := cell_on hb2 hcj; have hf1 : w1.frozen? ⟨w.heap.size, j, none⟩ = false := free_of (heap_on hb2 HA.out) j)
            go_roundw
            case rel =>
              have hnil : lst (hs ns) j p e = [] := lst_none fun x h1 h2 => HN.out x h1 (by omega)
              have hpe : pos (hs ns) j e = p := by rw [← HF.out, fin_nil hnil]
              have hce : c0 = steps (hs ns) e j := by have h1 := HCS.out; have h2 := cnt_nil hnil; omega
              refine ⟨j, by omega, rfl, by rw [hpe], by rw [hce], (below_step hb1 hb2 (Nat.le_refl _)).setCell (p := ⟨w.heap.size, j, none⟩) (Nat.le_refl _) _, ?_⟩
              rw [heap_setCell_same _ _ _ _ _ _ (heap_on hb2 HA.out), ← bef_set B ns e j hj, hpe]
            case measure => simp [intOf]
end Go.Proofs.Ythhdameaihclmaa
