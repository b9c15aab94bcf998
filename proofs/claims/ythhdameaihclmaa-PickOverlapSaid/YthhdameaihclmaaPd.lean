/- tables of package edit, at the sample version of layer 16's statements and at the empty one. Conditions: that its tables lie in memory. -/
import Derived.Test.YthhdameaihclmaaPb
import Derived.Maps.OwnOps
import Derived.Maps.OwnSet
namespace Go.Proofs.Ythhdameaihclmaa
open Go.RowKit Go.Maps Sk

theorem law25 : Keyed Try.prog 25 := int_keyed Try.underlying25
theorem zero3 (w : World) : (zeroValue 3).run Try.prog w = .ok (.int .i64 0) w := by kernel_rfl
/-- Block b is a map in which the numbers 1 to n are told once each. -/
def MQ (w : World) (b n : Nat) : Prop :=
  ∃ D : DataW Unit, w.ownsMap Try.prog 25 (plainElem Try.prog 3) b n D ∧ ∀ k : Int, 0 ≤ k → k ≤ 4 → D.atKey (.int .u64 k) (.lit (.int .i64 0)) = .lit (.int .i64 (if 1 ≤ k ∧ k ≤ (n : Int) then 1 else 0))
theorem MQ.made (w : World) : MQ (w.alloc (.map #[] 0)) w.heap.size 0 := by
  refine ⟨.map [], World.ownsMap_made _ _ _ _, fun k h1 h2 => ?_⟩
  rw [if_neg (by omega)]
  rfl
theorem wf_small {k : Int} (h1 : 0 ≤ k) (h2 : k ≤ 4) : (Lit.int .u64 k).wf = true := by simp [Lit.wf, IntKind.min, IntKind.max, IntKind.signed, IntKind.bits]; omega
theorem wpList_look_mq {w : World} {b n : Nat} (hq : MQ w b n) {ops : Array Oper} {rest : List Oper} {o : Oper} {a : Act} {Q : Exit → Act → World → Prop} (hg : o.guard = none) (m x : Operand) (hop : o.op = Op.lookup 119 m x false)
    (hm : a.eval m = .map (some b)) (k : Int) (hx : a.eval x = .int .u64 k) (h1 : 0 ≤ k) (h2 : k ≤ 4) (c : Int) (hc : (if 1 ≤ k ∧ k ≤ (n : Int) then (1 : Int) else 0) = c)
    (h : wpList Try.prog ops Q rest (a.put o.dst (.int .i64 c)) w) : wpList Try.prog ops Q (o :: rest) a w := by
  obtain ⟨D, hown, hat⟩ := hq
  refine wpList_lookup_own_int w hg m x 119 hop 25 3 .i64 law25 Try.underlying119 Try.underlying3 (zero3 _) b n D hm hown (.int .u64 k) (.int .u64 k) hx (keyOf_int_mk Try.underlying25 (wf_small h1 h2)) fun c' hat' _ => ?_
  rw [hat k h1 h2, hc] at hat'
  injection hat' with hat'
  injection hat' with _ hat'
  subst hat'
  exact h
theorem wpList_upd_mq {w : World} {b n : Nat} (hq : MQ w b n) {ops : Array Oper} {rest : List Oper} {o : Oper} {a : Act} {Q : Exit → Act → World → Prop} (hg : o.guard = none) (m x v : Operand) (hop : o.op = Op.mapUpdate 119 m x v)
    (hm : a.eval m = .map (some b)) (k : Int) (hx : a.eval x = .int .u64 k) (hv : a.eval v = .int .i64 1) (hk : k = (n : Int) + 1) (hn : n < 4)
    (h : ∀ w', MQ w' b (n + 1) → w.grownBy w' (some b) → wpList Try.prog ops Q rest (a.put o.dst undef) w') : wpList Try.prog ops Q (o :: rest) a w := by
  obtain ⟨D, hown, hat⟩ := hq
  have hkey : keyOf Try.prog 25 (.int .u64 k) = some (.int .u64 k) := keyOf_int_mk Try.underlying25 (wf_small (by omega) (by omega))
  refine wpList_mapUpdate_own w hg m x v 119 hop 25 3 law25 Try.underlying119 (plainElem Try.prog 3) b n D hm hown (by unfold maxLen; omega) (.int .u64 k) (.int .i64 1) (.int .u64 k) hx hv hkey (.lit (.int .i64 1)) [] (plainElem_int Try.underlying3 (by decide)) fun w' hown' hgrow => ?_
  refine h w' ⟨_, hown', fun j h1 h2 => ?_⟩ hgrow
  by_cases hj : j = k
  · subst hj
    rw [atKey_put_same hown.isMap (by trivial), if_pos (by omega)]
  · rw [atKey_put_other (by intro e; injection e with _ e; exact hj e), hat j h1 h2]
    have e : (if 1 ≤ j ∧ j ≤ (n : Int) then (1 : Int) else 0) = (if 1 ≤ j ∧ j ≤ ((n + 1 : Nat) : Int) then 1 else 0) := by
      by_cases h3 : 1 ≤ j ∧ j ≤ (n : Int)
      · rw [if_pos h3, if_pos (by omega)]
      · rw [if_neg h3, if_neg (by omega)]
    rw [e]

set_option maxRecDepth 100000 in
set_option maxHeartbeats 4000000 in
theorem tablesE_any (w : World) :
    Calls Try.prog 56 #[.agg verE] w fun e w' => e = .returned (.bool true) ∧ Below w.heap.size w w' := by
  unfold verE
  have hix := idxE
  have hmm := @run_makeMap Try.prog
  have HQ := Lib.hid (MQ.made (w.alloc (.cells verE 113)))
  rw [World.size_alloc] at HQ
  unfold verE at HQ
  have HB := Lib.hid (((Below.refl w.heap.size w).alloc (Nat.le_refl _) (.cells verE 113)).alloc (by simp) (.map #[] 0))
  unfold verE at HB
  go_enter Try.func56, Try.ntmps56
  go_wp2
  go_step3
  go_wp2
  go_step3
  go_wp2
  go_loop [12] (fun i => ∃ k : Nat, k ≤ 4 ∧ i = .int .i64 k) (fun i => 4 - (intOf i).toNat)
  case atStart => exact ⟨0, by omega, rfl⟩
  case round =>
    obtain ⟨k, hk, rfl⟩ := hrel
    by_cases hlt : k < 4
    · have hi := hix k hlt
      clear hix
      go_wp2
      go_loop [21] (fun j => j = .int .i64 0) (fun _ => 0)
      case atStart => rfl
      case round =>
        subst hrel
        go_wp2
        go_round
        case rel => exact ⟨k + 1, by omega, by go_num⟩
        case measure => simp [intOf]; omega
    · obtain rfl : k = 4 := by omega
      clear hix
      go_wp2_with (at_lookup; refine wpList_look_mq HQ.out rfl _ _ rfl rfl 0 rfl (by omega) (by omega) 0 rfl ?_)
      try rw [Exit.noGoto_ret]
      go_ret
      exact ⟨rfl, HB.out⟩

/-- The state behind n tables. -/
structure TS (w : World) (g0 g1 n : Nat) (wr : World) : Prop where
  q : MQ wr (w.heap.size + 1) n
  box : wr.heap[w.heap.size]? = some (.cells (verS g0 g1) 113 (0, 0))
  below : Below w.heap.size w wr
theorem MQ.alloc {w : World} {b n : Nat} (h : MQ w b n) (o : Obj) : MQ (w.alloc o) b n := by
  obtain ⟨D, h1, h2⟩ := h
  exact ⟨D, h1.alloc o, h2⟩
theorem MQ.lt {w : World} {b n : Nat} (h : MQ w b n) : b < w.heap.size := by
  obtain ⟨D, h1, h2⟩ := h
  exact h1.lt
theorem MQ.below {w w' : World} {b n : Nat} (h : MQ w b n) (hb : Below w.heap.size w w') : MQ w' b n := by
  obtain ⟨D, h1, h2⟩ := h
  refine ⟨D, ?_, h2⟩
  obtain ⟨es, clock, h3, h4⟩ := h1
  exact ⟨es, clock, (hb.block _ (Array.getElem?_eq_some_iff.1 h3).1).trans h3, h4⟩
theorem TS.on {w wr W : World} {g0 g1 n : Nat} (h : TS w g0 g1 n wr) (hb : Below wr.heap.size wr W) : TS w g0 g1 n W := ⟨h.q.below hb, heap_on hb h.box, below_step h.below hb (Nat.le_refl _)⟩
theorem TS.upd {w wr W : World} {g0 g1 n : Nat} (h : TS w g0 g1 n wr) (cs : Array Value) (hq : MQ W (w.heap.size + 1) (n + 1)) (hg : (wr.alloc (.cells cs 69)).grownBy W (some (w.heap.size + 1))) :
    TS w g0 g1 (n + 1) W ∧ ∀ (i : Nat) (v : Value), cs[i]? = some v → W.cell? ⟨wr.heap.size, i, none⟩ = some v := by
  have hlt := h.q.lt
  have hbox := (Array.getElem?_eq_some_iff.1 h.box).1
  refine ⟨⟨hq, ?_, (h.below.alloc h.below.size _).grown hg (by simp; omega) (fun j hj => by cases hj; omega)⟩, fun i v hv => ?_⟩
  · exact (hg.block _ (by rw [World.size_alloc]; omega) (by intro e; injection e with e; omega)).trans (heap_on ((Below.refl _ _).alloc (Nat.le_refl _) _) h.box)
  · have hb : W.heap[wr.heap.size]? = some (.cells cs 69 (0, 0)) := (hg.block _ (by rw [World.size_alloc]; omega) (by intro e; injection e with e; omega)).trans (heap_alloc_new _ _)
    rw [cell_of hb]
    exact hv
theorem may1 : MayOk m1 := by constructor <;> simp [m1, ByteArray.toList_eq, Op.bytesLess, ByteArray.size]
theorem may2 : MayOk m2 := by constructor <;> simp [m2, ByteArray.toList_eq, Op.bytesLess, ByteArray.size]
theorem may3 : MayOk m3 := by constructor <;> simp [m3, ByteArray.toList_eq, ByteArray.size]
theorem may4 : MayOk m4 := by constructor <;> simp [m4, ByteArray.toList_eq, Op.bytesLess, ByteArray.size]

set_option maxRecDepth 100000 in
set_option maxHeartbeats 8000000 in
theorem tablesS_any (w : World) (g0 g1 : Nat) (h0 : w.heap[g0]? = some (.cells cs0 69 (0, 0))) (h1 : w.heap[g1]? = some (.cells cs1 69 (0, 0))) :
    Calls Try.prog 56 #[.agg (verS g0 g1)] w fun e w' => e = .returned (.bool true) ∧ Below w.heap.size w w' := by
  have hT0 : TS w g0 g1 0 ((w.alloc (.cells (verS g0 g1) 113)).alloc (.map #[] 0)) :=
    ⟨by have := MQ.made (w.alloc (.cells (verS g0 g1) 113)); rwa [World.size_alloc] at this, heap_alloc2_old w _ _, ((Below.refl w.heap.size w).alloc (Nat.le_refl _) _).alloc (by simp) _⟩
  have HT0 := Lib.hid hT0
  have H0 := Lib.hid h0
  have H1 := Lib.hid h1
  clear h0 h1 hT0
  have hmm := @run_makeMap Try.prog
  unfold verS at HT0 ⊢
  go_enter Try.func56, Try.ntmps56
  go_wp2
  go_step3
  go_wp2
  go_step3
  go_wp2
  go_loopw [12] (fun i wr => (i = .int .i64 0 ∧ TS w g0 g1 0 wr) ∨ (i = .int .i64 1 ∧ TS w g0 g1 2 wr) ∨ (i = .int .i64 2 ∧ TS w g0 g1 4 wr) ∨ (i = .int .i64 3 ∧ TS w g0 g1 4 wr) ∨ (i = .int .i64 4 ∧ TS w g0 g1 4 wr)) (fun i _ => 4 - (intOf i).toNat)
  case atStart => exact .inl ⟨rfl, HT0.out⟩
  case round =>
    clear HT0
    rcases hrel with ⟨rfl, hT⟩ | ⟨rfl, hT⟩ | ⟨rfl, hT⟩ | ⟨rfl, hT⟩ | ⟨rfl, hT⟩
    all_goals (have HT := Lib.hid hT; clear hT)
    · have hi := idx0
      go_wp2
      clear hi
      obtain ⟨w1, rfl⟩ : ∃ w1, w1 = wr := ⟨_, rfl⟩
      go_loopw [21] (fun j wr => (j = .int .i64 0 ∧ TS w g0 g1 0 wr) ∨ (j = .int .i64 1 ∧ TS w g0 g1 1 wr) ∨ (j = .int .i64 2 ∧ TS w g0 g1 2 wr)) (fun j _ => 2 - (intOf j).toNat)
      case atStart => exact .inl ⟨rfl, HT.out⟩
      case round =>
        clear HT
        rcases hrel with ⟨rfl, hT⟩ | ⟨rfl, hT⟩ | ⟨rfl, hT⟩
        · obtain ⟨w2, rfl⟩ : ∃ w2, w2 = wr := ⟨_, rfl⟩
          have c0 : w2.cell? ⟨g0, 0, none⟩ = some (Value.int .u64 1) := cell_of (heap_on hT.below H0.out) 0
          have c1 : w2.cell? ⟨g0, 1, none⟩ = some (Value.int .i64 9) := cell_of (heap_on hT.below H0.out) 1
          have c2 : w2.cell? ⟨g0, 2, none⟩ = some (Value.int .i64 1) := cell_of (heap_on hT.below H0.out) 2
          have c3 : w2.cell? ⟨g0, 3, none⟩ = some (Value.string ⟨#[97]⟩) := cell_of (heap_on hT.below H0.out) 3
          have c4 : w2.cell? ⟨g0, 4, none⟩ = some (Value.string ⟨#[99]⟩) := cell_of (heap_on hT.below H0.out) 4
          have c5 : w2.cell? ⟨g0, 5, none⟩ = some (Value.int .u64 1) := cell_of (heap_on hT.below H0.out) 5
          have c6 : w2.cell? ⟨g0, 6, none⟩ = some (Value.int .u64 1) := cell_of (heap_on hT.below H0.out) 6
          have b1 : w2.cell? ⟨w.heap.size, 1, none⟩ = some (.int .u64 5) := cell_of hT.box 1
          have b2 : w2.cell? ⟨w.heap.size, 2, none⟩ = some (.int .u64 9) := cell_of hT.box 2
          have HT := Lib.hid hT
          clear hT
          go_wp2_with (first
            | (at_mapUpdate; refine wpList_upd_mq (HT.out.q.alloc _) rfl _ _ _ rfl rfl 1 rfl rfl rfl (by omega) ?_; intro w3 hq3 hg3; have hT3 := HT.out.upd _ hq3 hg3; have e0 : w3.cell? ⟨w2.heap.size, 0, none⟩ = some (Value.int .u64 1) := hT3.2 0 _ rfl; have e1 : w3.cell? ⟨w2.heap.size, 1, none⟩ = some (Value.int .i64 9) := hT3.2 1 _ rfl; have e2 : w3.cell? ⟨w2.heap.size, 2, none⟩ = some (Value.int .i64 1) := hT3.2 2 _ rfl; have e3 : w3.cell? ⟨w2.heap.size, 3, none⟩ = some (Value.string ⟨#[97]⟩) := hT3.2 3 _ rfl; have e4 : w3.cell? ⟨w2.heap.size, 4, none⟩ = some (Value.string ⟨#[99]⟩) := hT3.2 4 _ rfl; have e5 : w3.cell? ⟨w2.heap.size, 5, none⟩ = some (Value.int .u64 1) := hT3.2 5 _ rfl; have e6 : w3.cell? ⟨w2.heap.size, 6, none⟩ = some (Value.int .u64 1) := hT3.2 6 _ rfl; have b13 : w3.cell? ⟨w.heap.size, 1, none⟩ = some (.int .u64 5) := cell_of hT3.1.box 1; have b23 : w3.cell? ⟨w.heap.size, 2, none⟩ = some (.int .u64 9) := cell_of hT3.1.box 2; have HT3 := Lib.hid hT3.1; clear hT3 hq3 hg3)
            | (at_lookup; refine wpList_look_mq HT3.out.q rfl _ _ rfl rfl 1 rfl (by omega) (by omega) 1 rfl ?_)
            | (at_lookup; refine wpList_look_mq (HT.out.q.alloc _) rfl _ _ rfl rfl 1 rfl (by omega) (by omega) 0 rfl ?_)
            | (go_at_call 62; refine (may_any _ m1 may1).mono ?_; rintro e4 w4 ⟨rfl, hb4⟩; have b14 : w4.cell? ⟨w.heap.size, 1, none⟩ = some (.int .u64 5) := cell_on hb4 b13; have b24 : w4.cell? ⟨w.heap.size, 2, none⟩ = some (.int .u64 9) := cell_on hb4 b23; have z0 := cell_on hb4 e0; have z6 := cell_on hb4 e6))
          go_roundw
          case rel => exact .inr (.inl ⟨rfl, HT3.out.on hb4⟩)
          case measure => simp [intOf]
        · obtain ⟨w2, rfl⟩ : ∃ w2, w2 = wr := ⟨_, rfl⟩
          have c0 : w2.cell? ⟨g0, 7, none⟩ = some (Value.int .u64 2) := cell_of (heap_on hT.below H0.out) 7
          have c1 : w2.cell? ⟨g0, 8, none⟩ = some (Value.int .i64 9) := cell_of (heap_on hT.below H0.out) 8
          have c2 : w2.cell? ⟨g0, 9, none⟩ = some (Value.int .i64 1) := cell_of (heap_on hT.below H0.out) 9
          have c3 : w2.cell? ⟨g0, 10, none⟩ = some (Value.string ⟨#[98]⟩) := cell_of (heap_on hT.below H0.out) 10
          have c4 : w2.cell? ⟨g0, 11, none⟩ = some (Value.string ⟨#[100]⟩) := cell_of (heap_on hT.below H0.out) 11
          have c5 : w2.cell? ⟨g0, 12, none⟩ = some (Value.int .u64 2) := cell_of (heap_on hT.below H0.out) 12
          have c6 : w2.cell? ⟨g0, 13, none⟩ = some (Value.int .u64 2) := cell_of (heap_on hT.below H0.out) 13
          have b1 : w2.cell? ⟨w.heap.size, 1, none⟩ = some (.int .u64 5) := cell_of hT.box 1
          have b2 : w2.cell? ⟨w.heap.size, 2, none⟩ = some (.int .u64 9) := cell_of hT.box 2
          have HT := Lib.hid hT
          clear hT
          go_wp2_with (first
            | (at_mapUpdate; refine wpList_upd_mq (HT.out.q.alloc _) rfl _ _ _ rfl rfl 2 rfl rfl rfl (by omega) ?_; intro w3 hq3 hg3; have hT3 := HT.out.upd _ hq3 hg3; have e0 : w3.cell? ⟨w2.heap.size, 0, none⟩ = some (Value.int .u64 2) := hT3.2 0 _ rfl; have e1 : w3.cell? ⟨w2.heap.size, 1, none⟩ = some (Value.int .i64 9) := hT3.2 1 _ rfl; have e2 : w3.cell? ⟨w2.heap.size, 2, none⟩ = some (Value.int .i64 1) := hT3.2 2 _ rfl; have e3 : w3.cell? ⟨w2.heap.size, 3, none⟩ = some (Value.string ⟨#[98]⟩) := hT3.2 3 _ rfl; have e4 : w3.cell? ⟨w2.heap.size, 4, none⟩ = some (Value.string ⟨#[100]⟩) := hT3.2 4 _ rfl; have e5 : w3.cell? ⟨w2.heap.size, 5, none⟩ = some (Value.int .u64 2) := hT3.2 5 _ rfl; have e6 : w3.cell? ⟨w2.heap.size, 6, none⟩ = some (Value.int .u64 2) := hT3.2 6 _ rfl; have b13 : w3.cell? ⟨w.heap.size, 1, none⟩ = some (.int .u64 5) := cell_of hT3.1.box 1; have b23 : w3.cell? ⟨w.heap.size, 2, none⟩ = some (.int .u64 9) := cell_of hT3.1.box 2; have HT3 := Lib.hid hT3.1; clear hT3 hq3 hg3)
            | (at_lookup; refine wpList_look_mq HT3.out.q rfl _ _ rfl rfl 2 rfl (by omega) (by omega) 1 rfl ?_)
            | (at_lookup; refine wpList_look_mq (HT.out.q.alloc _) rfl _ _ rfl rfl 2 rfl (by omega) (by omega) 0 rfl ?_)
            | (go_at_call 62; refine (may_any _ m2 may2).mono ?_; rintro e4 w4 ⟨rfl, hb4⟩; have b14 : w4.cell? ⟨w.heap.size, 1, none⟩ = some (.int .u64 5) := cell_on hb4 b13; have b24 : w4.cell? ⟨w.heap.size, 2, none⟩ = some (.int .u64 9) := cell_on hb4 b23; have z0 := cell_on hb4 e0; have z6 := cell_on hb4 e6))
          go_roundw
          case rel => exact .inr (.inr ⟨rfl, HT3.out.on hb4⟩)
          case measure => simp [intOf]
        · have HT := Lib.hid hT
          clear hT
          go_wp2
          go_roundw
          case rel => exact .inr (.inl ⟨rfl, HT.out⟩)
          case measure => simp [intOf]
    · have hi := idx1
      go_wp2
      clear hi
      obtain ⟨w1, rfl⟩ : ∃ w1, w1 = wr := ⟨_, rfl⟩
      go_loopw [21] (fun j wr => (j = .int .i64 0 ∧ TS w g0 g1 2 wr) ∨ (j = .int .i64 1 ∧ TS w g0 g1 3 wr) ∨ (j = .int .i64 2 ∧ TS w g0 g1 4 wr)) (fun j _ => 2 - (intOf j).toNat)
      case atStart => exact .inl ⟨rfl, HT.out⟩
      case round =>
        clear HT
        rcases hrel with ⟨rfl, hT⟩ | ⟨rfl, hT⟩ | ⟨rfl, hT⟩
        · obtain ⟨w2, rfl⟩ : ∃ w2, w2 = wr := ⟨_, rfl⟩
          have c0 : w2.cell? ⟨g1, 0, none⟩ = some (Value.int .u64 3) := cell_of (heap_on hT.below H1.out) 0
          have c1 : w2.cell? ⟨g1, 1, none⟩ = some (Value.int .i64 60) := cell_of (heap_on hT.below H1.out) 1
          have c2 : w2.cell? ⟨g1, 2, none⟩ = some (Value.int .i64 1) := cell_of (heap_on hT.below H1.out) 2
          have c3 : w2.cell? ⟨g1, 3, none⟩ = some (Value.string ⟨#[97]⟩) := cell_of (heap_on hT.below H1.out) 3
          have c4 : w2.cell? ⟨g1, 4, none⟩ = some (Value.string ⟨#[97]⟩) := cell_of (heap_on hT.below H1.out) 4
          have c5 : w2.cell? ⟨g1, 5, none⟩ = some (Value.int .u64 1) := cell_of (heap_on hT.below H1.out) 5
          have c6 : w2.cell? ⟨g1, 6, none⟩ = some (Value.int .u64 1) := cell_of (heap_on hT.below H1.out) 6
          have b1 : w2.cell? ⟨w.heap.size, 1, none⟩ = some (.int .u64 5) := cell_of hT.box 1
          have b2 : w2.cell? ⟨w.heap.size, 2, none⟩ = some (.int .u64 9) := cell_of hT.box 2
          have HT := Lib.hid hT
          clear hT
          go_wp2_with (first
            | (at_mapUpdate; refine wpList_upd_mq (HT.out.q.alloc _) rfl _ _ _ rfl rfl 3 rfl rfl rfl (by omega) ?_; intro w3 hq3 hg3; have hT3 := HT.out.upd _ hq3 hg3; have e0 : w3.cell? ⟨w2.heap.size, 0, none⟩ = some (Value.int .u64 3) := hT3.2 0 _ rfl; have e1 : w3.cell? ⟨w2.heap.size, 1, none⟩ = some (Value.int .i64 60) := hT3.2 1 _ rfl; have e2 : w3.cell? ⟨w2.heap.size, 2, none⟩ = some (Value.int .i64 1) := hT3.2 2 _ rfl; have e3 : w3.cell? ⟨w2.heap.size, 3, none⟩ = some (Value.string ⟨#[97]⟩) := hT3.2 3 _ rfl; have e4 : w3.cell? ⟨w2.heap.size, 4, none⟩ = some (Value.string ⟨#[97]⟩) := hT3.2 4 _ rfl; have e5 : w3.cell? ⟨w2.heap.size, 5, none⟩ = some (Value.int .u64 1) := hT3.2 5 _ rfl; have e6 : w3.cell? ⟨w2.heap.size, 6, none⟩ = some (Value.int .u64 1) := hT3.2 6 _ rfl; have b13 : w3.cell? ⟨w.heap.size, 1, none⟩ = some (.int .u64 5) := cell_of hT3.1.box 1; have b23 : w3.cell? ⟨w.heap.size, 2, none⟩ = some (.int .u64 9) := cell_of hT3.1.box 2; have HT3 := Lib.hid hT3.1; clear hT3 hq3 hg3)
            | (at_lookup; refine wpList_look_mq HT3.out.q rfl _ _ rfl rfl 3 rfl (by omega) (by omega) 1 rfl ?_)
            | (at_lookup; refine wpList_look_mq (HT.out.q.alloc _) rfl _ _ rfl rfl 3 rfl (by omega) (by omega) 0 rfl ?_)
            | (go_at_call 62; refine (may_any _ m3 may3).mono ?_; rintro e4 w4 ⟨rfl, hb4⟩; have b14 : w4.cell? ⟨w.heap.size, 1, none⟩ = some (.int .u64 5) := cell_on hb4 b13; have b24 : w4.cell? ⟨w.heap.size, 2, none⟩ = some (.int .u64 9) := cell_on hb4 b23; have z0 := cell_on hb4 e0; have z6 := cell_on hb4 e6))
          go_roundw
          case rel => exact .inr (.inl ⟨rfl, HT3.out.on hb4⟩)
          case measure => simp [intOf]
        · obtain ⟨w2, rfl⟩ : ∃ w2, w2 = wr := ⟨_, rfl⟩
          have c0 : w2.cell? ⟨g1, 7, none⟩ = some (Value.int .u64 4) := cell_of (heap_on hT.below H1.out) 7
          have c1 : w2.cell? ⟨g1, 8, none⟩ = some (Value.int .i64 50) := cell_of (heap_on hT.below H1.out) 8
          have c2 : w2.cell? ⟨g1, 9, none⟩ = some (Value.int .i64 1) := cell_of (heap_on hT.below H1.out) 9
          have c3 : w2.cell? ⟨g1, 10, none⟩ = some (Value.string ⟨#[101]⟩) := cell_of (heap_on hT.below H1.out) 10
          have c4 : w2.cell? ⟨g1, 11, none⟩ = some (Value.string ⟨#[102]⟩) := cell_of (heap_on hT.below H1.out) 11
          have c5 : w2.cell? ⟨g1, 12, none⟩ = some (Value.int .u64 1) := cell_of (heap_on hT.below H1.out) 12
          have c6 : w2.cell? ⟨g1, 13, none⟩ = some (Value.int .u64 1) := cell_of (heap_on hT.below H1.out) 13
          have b1 : w2.cell? ⟨w.heap.size, 1, none⟩ = some (.int .u64 5) := cell_of hT.box 1
          have b2 : w2.cell? ⟨w.heap.size, 2, none⟩ = some (.int .u64 9) := cell_of hT.box 2
          have HT := Lib.hid hT
          clear hT
          go_wp2_with (first
            | (at_mapUpdate; refine wpList_upd_mq (HT.out.q.alloc _) rfl _ _ _ rfl rfl 4 rfl rfl rfl (by omega) ?_; intro w3 hq3 hg3; have hT3 := HT.out.upd _ hq3 hg3; have e0 : w3.cell? ⟨w2.heap.size, 0, none⟩ = some (Value.int .u64 4) := hT3.2 0 _ rfl; have e1 : w3.cell? ⟨w2.heap.size, 1, none⟩ = some (Value.int .i64 50) := hT3.2 1 _ rfl; have e2 : w3.cell? ⟨w2.heap.size, 2, none⟩ = some (Value.int .i64 1) := hT3.2 2 _ rfl; have e3 : w3.cell? ⟨w2.heap.size, 3, none⟩ = some (Value.string ⟨#[101]⟩) := hT3.2 3 _ rfl; have e4 : w3.cell? ⟨w2.heap.size, 4, none⟩ = some (Value.string ⟨#[102]⟩) := hT3.2 4 _ rfl; have e5 : w3.cell? ⟨w2.heap.size, 5, none⟩ = some (Value.int .u64 1) := hT3.2 5 _ rfl; have e6 : w3.cell? ⟨w2.heap.size, 6, none⟩ = some (Value.int .u64 1) := hT3.2 6 _ rfl; have b13 : w3.cell? ⟨w.heap.size, 1, none⟩ = some (.int .u64 5) := cell_of hT3.1.box 1; have b23 : w3.cell? ⟨w.heap.size, 2, none⟩ = some (.int .u64 9) := cell_of hT3.1.box 2; have HT3 := Lib.hid hT3.1; clear hT3 hq3 hg3)
            | (at_lookup; refine wpList_look_mq HT3.out.q rfl _ _ rfl rfl 4 rfl (by omega) (by omega) 1 rfl ?_)
            | (at_lookup; refine wpList_look_mq (HT.out.q.alloc _) rfl _ _ rfl rfl 4 rfl (by omega) (by omega) 0 rfl ?_)
            | (go_at_call 62; refine (may_any _ m4 may4).mono ?_; rintro e4 w4 ⟨rfl, hb4⟩; have b14 : w4.cell? ⟨w.heap.size, 1, none⟩ = some (.int .u64 5) := cell_on hb4 b13; have b24 : w4.cell? ⟨w.heap.size, 2, none⟩ = some (.int .u64 9) := cell_on hb4 b23; have z0 := cell_on hb4 e0; have z6 := cell_on hb4 e6))
          go_roundw
          case rel => exact .inr (.inr ⟨rfl, HT3.out.on hb4⟩)
          case measure => simp [intOf]
        · have HT := Lib.hid hT
          clear hT
          go_wp2
          go_roundw
          case rel => exact .inr (.inr (.inl ⟨rfl, HT.out⟩))
          case measure => simp [intOf]
    · have hi := idx2
      go_wp2
      clear hi
      obtain ⟨w1, rfl⟩ : ∃ w1, w1 = wr := ⟨_, rfl⟩
      go_loop [21] (fun j => j = .int .i64 0) (fun _ => 0)
      case atStart => rfl
      case round =>
        subst hrel
        go_wp2
        go_roundw
        case rel => exact .inr (.inr (.inr (.inl ⟨rfl, HT.out⟩)))
        case measure => simp [intOf]
    · have hi := idx3
      go_wp2
      clear hi
      obtain ⟨w1, rfl⟩ : ∃ w1, w1 = wr := ⟨_, rfl⟩
      go_loop [21] (fun j => j = .int .i64 0) (fun _ => 0)
      case atStart => rfl
      case round =>
        subst hrel
        go_wp2
        go_roundw
        case rel => exact .inr (.inr (.inr (.inr ⟨rfl, HT.out⟩)))
        case measure => simp [intOf]
    · go_wp2_with (at_lookup; refine wpList_look_mq HT.out.q rfl _ _ rfl rfl 0 rfl (by omega) (by omega) 0 rfl ?_)
      try rw [Exit.noGoto_ret]
      go_ret
      exact ⟨rfl, HT.out.below⟩
end Go.Proofs.Ythhdameaihclmaa
