/- Pick of package pick, as layer 16's awake calls it. Conditions: that the tables lie in memory. -/
import Derived.Test.YthhdameaihclmaaPi
import Derived.Deep.LoopGhost
namespace Go.Proofs.Ythhdameaihclmaa
open Go.RowKit Sk

def opC16 : Array Value := #[.int .i64 2, .int .i64 100, .int .i64 10]
def coC (k : Int) (a b : Value) : Array Value := #[.int .i64 k, a, b]
theorem Try.size94 : (Try.prog.info? 94).map (·.size) = some 3 := by kernel_rfl
theorem coOne : (#[.int .i64 0, .slice none 0 0, .slice none 0 0] : Array Value).all (·.oneCell') = true := by simp [Value.oneCell']
/-- Pick's own blocks. -/
structure PK (w : World) (ver : Array Value) (B6 : Nat) (k : Int) (v : Value) (wr : World) : Prop where
  b0 : wr.heap[w.heap.size]? = some (.cells ver 91 (0, 0))
  b1 : wr.heap[w.heap.size + 1]? = some (.cells opC16 98 (0, 0))
  b4 : wr.heap[w.heap.size + 1 + 1]? = some (.cells (coC 0 (.slice none 0 0) (.slice none 0 0)) 94 (0, 0))
  b6 : wr.heap[B6]? = some (.cells (coC k v (.slice none 0 0)) 94 (0, 0))
  lt : w.heap.size + 1 + 1 < B6
  below : Below w.heap.size w wr
theorem PK.on {w wr W : World} {ver : Array Value} {B6 : Nat} {k : Int} {v : Value} (h : PK w ver B6 k v wr) (hb : Below wr.heap.size wr W) : PK w ver B6 k v W :=
  ⟨heap_on hb h.b0, heap_on hb h.b1, heap_on hb h.b4, heap_on hb h.b6, h.lt, below_step h.below hb (Nat.le_refl _)⟩

/-- Pick's blocks ahead of its loop. -/
structure PK0 (w : World) (ver : Array Value) (wr : World) : Prop where
  b0 : wr.heap[w.heap.size]? = some (.cells ver 91 (0, 0))
  b1 : wr.heap[w.heap.size + 1]? = some (.cells opC16 98 (0, 0))
  b4 : wr.heap[w.heap.size + 1 + 1]? = some (.cells (coC 0 (.slice none 0 0) (.slice none 0 0)) 94 (0, 0))
  below : Below w.heap.size w wr
theorem PK0.on {w wr W : World} {ver : Array Value} (h : PK0 w ver wr) (hb : Below wr.heap.size wr W) : PK0 w ver W :=
  ⟨heap_on hb h.b0, heap_on hb h.b1, heap_on hb h.b4, below_step h.below hb (Nat.le_refl _)⟩
theorem PK0.start (w : World) (ver : Array Value) : PK0 w ver (((w.alloc (.cells ver 91)).alloc (.cells opC16 98)).alloc (.cells (coC 0 (.slice none 0 0) (.slice none 0 0)) 94)) := by
  have hb : Below ((w.alloc (.cells ver 91)).alloc (.cells opC16 98)).heap.size ((w.alloc (.cells ver 91)).alloc (.cells opC16 98)) (((w.alloc (.cells ver 91)).alloc (.cells opC16 98)).alloc (.cells (coC 0 (.slice none 0 0) (.slice none 0 0)) 94)) := (Below.refl _ _).alloc (Nat.le_refl _) _
  refine ⟨heap_on hb (heap_alloc2_old w _ _), heap_on hb (heap_alloc2_new w _ _), ?_, ((((Below.refl _ _).alloc (Nat.le_refl _) _).alloc (by simp) _).alloc (by simp; omega) _)⟩
  have := heap_alloc_new ((w.alloc (.cells ver 91)).alloc (.cells opC16 98)) (.cells (coC 0 (.slice none 0 0) (.slice none 0 0)) 94)
  rwa [World.size_alloc, World.size_alloc] at this
theorem PK0.ver {w wr : World} {a b c d e f g : Value} (h : PK0 w #[a, b, c, d, e, f, g] wr) :
    wr.cell? ⟨w.heap.size, 0, none⟩ = some a ∧ wr.cell? ⟨w.heap.size, 1, none⟩ = some b ∧ wr.cell? ⟨w.heap.size, 2, none⟩ = some c ∧ wr.cell? ⟨w.heap.size, 3, none⟩ = some d ∧ wr.cell? ⟨w.heap.size, 4, none⟩ = some e ∧ wr.cell? ⟨w.heap.size, 5, none⟩ = some f ∧ wr.cell? ⟨w.heap.size, 6, none⟩ = some g :=
  ⟨cell_of h.b0 0, cell_of h.b0 1, cell_of h.b0 2, cell_of h.b0 3, cell_of h.b0 4, cell_of h.b0 5, cell_of h.b0 6⟩
theorem PK0.opt {w wr : World} {ver : Array Value} (h : PK0 w ver wr) : wr.cell? ⟨w.heap.size + 1, 0, none⟩ = some (.int .i64 2) ∧ wr.cell? ⟨w.heap.size + 1, 1, none⟩ = some (.int .i64 100) ∧ wr.cell? ⟨w.heap.size + 1, 2, none⟩ = some (.int .i64 10) :=
  ⟨cell_of h.b1 0, cell_of h.b1 1, cell_of h.b1 2⟩
theorem PK.start {w wr : World} {ver : Array Value} (h : PK0 w ver wr) : PK w ver wr.heap.size 0 (.slice none 0 0) (wr.alloc (.cells (coC 0 (.slice none 0 0) (.slice none 0 0)) 94)) := by
  have hb : Below wr.heap.size wr (wr.alloc (.cells (coC 0 (.slice none 0 0) (.slice none 0 0)) 94)) := (Below.refl _ _).alloc (Nat.le_refl _) _
  exact ⟨heap_on hb h.b0, heap_on hb h.b1, heap_on hb h.b4, heap_alloc_new _ _, (Array.getElem?_eq_some_iff.1 h.b4).1, below_step h.below hb (Nat.le_refl _)⟩
theorem PK.turn {w wr : World} {ver : Array Value} {B6 : Nat} {k : Int} {v : Value} (h : PK w ver B6 k v wr) (k' : Int) (v' : Value) : PK w ver B6 k' v' ((wr.setCell ⟨B6, 1, none⟩ v').setCell ⟨B6, 0, none⟩ (.int .i64 k')) := by
  have hlt := h.lt
  have ho : ∀ b, b ≠ B6 → ((wr.setCell ⟨B6, 1, none⟩ v').setCell ⟨B6, 0, none⟩ (.int .i64 k')).heap[b]? = wr.heap[b]? := fun b hb => (Below.heap_setCell _ _ _ b hb).trans (Below.heap_setCell _ _ _ b hb)
  refine ⟨(ho _ (by omega)).trans h.b0, (ho _ (by omega)).trans h.b1, (ho _ (by omega)).trans h.b4, ?_, h.lt, (h.below.setCell (p := ⟨B6, 1, none⟩) (by show w.heap.size ≤ B6; omega) _).setCell (p := ⟨B6, 0, none⟩) (by show w.heap.size ≤ B6; omega) _⟩
  rw [heap_setCell_same _ _ _ _ _ _ (heap_setCell_same _ _ _ _ _ _ h.b6)]
  rfl
theorem PK.set1 {w wr : World} {ver : Array Value} {B6 : Nat} {k : Int} {v : Value} (h : PK w ver B6 k v wr) (v' : Value) : PK w ver B6 k v' (wr.setCell ⟨B6, 1, none⟩ v') := by
  have hlt := h.lt
  have ho : ∀ b, b ≠ B6 → (wr.setCell ⟨B6, 1, none⟩ v').heap[b]? = wr.heap[b]? := fun b hb => Below.heap_setCell _ _ _ b hb
  refine ⟨(ho _ (by omega)).trans h.b0, (ho _ (by omega)).trans h.b1, (ho _ (by omega)).trans h.b4, ?_, h.lt, h.below.setCell (p := ⟨B6, 1, none⟩) (by show w.heap.size ≤ B6; omega) _⟩
  rw [heap_setCell_same _ _ _ _ _ _ h.b6]
  rfl
theorem PK.set0 {w wr : World} {ver : Array Value} {B6 : Nat} {k : Int} {v : Value} (h : PK w ver B6 k v wr) (k' : Int) : PK w ver B6 k' v (wr.setCell ⟨B6, 0, none⟩ (.int .i64 k')) := by
  have hlt := h.lt
  have ho : ∀ b, b ≠ B6 → (wr.setCell ⟨B6, 0, none⟩ (.int .i64 k')).heap[b]? = wr.heap[b]? := fun b hb => Below.heap_setCell _ _ _ b hb
  refine ⟨(ho _ (by omega)).trans h.b0, (ho _ (by omega)).trans h.b1, (ho _ (by omega)).trans h.b4, ?_, h.lt, h.below.setCell (p := ⟨B6, 0, none⟩) (by show w.heap.size ≤ B6; omega) _⟩
  rw [heap_setCell_same _ _ _ _ _ _ h.b6]
  rfl
set_option maxRecDepth 100000 in
set_option maxHeartbeats 4000000 in
theorem pickE_any (w : World) :
    Calls Try.prog 43 #[.agg verE, .agg #[.int .i64 2, .int .i64 100, .int .i64 10]] w fun e w' => e = .returned (.tuple #[.agg (coC 0 (.slice none 0 0) (.slice none 0 0)), .int .i64 4]) ∧ Below w.heap.size w w' := by
  have HR := Lib.hid (fun W => rightE_any W)
  have HC := Lib.hid (fun W => pcheck_any W 2 100 10 (by decide) (by decide) (by decide) (by decide) (by decide) (by decide))
  have HD0 := Lib.hid (fun W => dueE_any W 0 (.inl rfl))
  have HD1 := Lib.hid (fun W => dueE_any W 1 (.inr (.inl rfl)))
  have HD2 := Lib.hid (fun W => dueE_any W 2 (.inr (.inr rfl)))
  unfold Yes verE at *
  go_enter Try.func43, Try.ntmps43
  go_wp2
  have Q0 : PK0 w #[.int .u64 1, .int .u64 1, .int .u64 0, .slice none 0 0, .slice none 0 0, .slice none 0 0, .slice none 0 0] _ := PK0.start w _
  unfold opC16 coC at Q0
  have HQ0 := Lib.hid Q0
  clear Q0
  generalize ((w.alloc (.cells #[.int .u64 1, .int .u64 1, .int .u64 0, .slice none 0 0, .slice none 0 0, .slice none 0 0, .slice none 0 0] 91)).alloc (.cells #[.int .i64 2, .int .i64 100, .int .i64 10] 98)).alloc (.cells #[.int .i64 0, .slice none 0 0, .slice none 0 0] 94) = W0 at *
  obtain ⟨v0, v1, v2, v3, v4, v5, v6⟩ := PK0.ver HQ0.out
  go_step3
  go_wp2_with (first
    | (go_at_call 47; refine (HR.out _).mono ?_; rintro e1 w1 ⟨rfl, hb1⟩; have HQ1 := Lib.hid (HQ0.out.on hb1); obtain ⟨o0, o1, o2⟩ := PK0.opt HQ1.out; clear hb1)
    | (go_at_call 48; refine (HC.out _).mono ?_; rintro e2 w2 ⟨rfl, hb2⟩; have HQ2 := Lib.hid (HQ1.out.on hb2); clear hb2))
  have hP := PK.start HQ2.out
  unfold coC at hP
  have HP := Lib.hid hP
  clear hP
  have HB6 := Lib.hid (show w.heap.size + 1 + 1 < w2.heap.size from (Array.getElem?_eq_some_iff.1 HQ2.out.b4).1)
  generalize w2.alloc (.cells #[.int .i64 0, .slice none 0 0, .slice none 0 0] 94) = W1 at *
  clear o0 o1 o2 v0 v1 v2 v3 v4 v5 v6
  go_step3
  have q0 : W1.cell? ⟨w2.heap.size, 0, none⟩ = some (.int .i64 0) := cell_of HP.out.b6 0
  have q1 : W1.frozen? ⟨w2.heap.size, 0, none⟩ = false := free_of HP.out.b6 0
  go_wp2
  go_loopg [19] 3 (fun g _ wr => (g = 3 ∧ PK w #[.int .u64 1, .int .u64 1, .int .u64 0, .slice none 0 0, .slice none 0 0, .slice none 0 0, .slice none 0 0] w2.heap.size 0 (.slice none 0 0) wr) ∨ (g = 2 ∧ PK w #[.int .u64 1, .int .u64 1, .int .u64 0, .slice none 0 0, .slice none 0 0, .slice none 0 0, .slice none 0 0] w2.heap.size 1 (.slice none 0 0) wr) ∨ (g = 1 ∧ PK w #[.int .u64 1, .int .u64 1, .int .u64 0, .slice none 0 0, .slice none 0 0, .slice none 0 0, .slice none 0 0] w2.heap.size 2 (.slice none 0 0) wr) ∨ (g = 0 ∧ PK w #[.int .u64 1, .int .u64 1, .int .u64 0, .slice none 0 0, .slice none 0 0, .slice none 0 0, .slice none 0 0] w2.heap.size 3 (.slice none 0 0) wr))
  case atStart => exact .inl ⟨rfl, by first | exact HP.out | exact HP.out.set0 0⟩
  case round =>
    clear HP q0 q1
    rcases hrel with ⟨rfl, hP⟩ | ⟨rfl, hP⟩ | ⟨rfl, hP⟩ | ⟨rfl, hP⟩
    · have v0 : wr.cell? ⟨w.heap.size, 0, none⟩ = some (Value.int .u64 1) := cell_of hP.b0 0
      have v1 : wr.cell? ⟨w.heap.size, 1, none⟩ = some (Value.int .u64 1) := cell_of hP.b0 1
      have v2 : wr.cell? ⟨w.heap.size, 2, none⟩ = some (Value.int .u64 0) := cell_of hP.b0 2
      have v3 : wr.cell? ⟨w.heap.size, 3, none⟩ = some (Value.slice none 0 0) := cell_of hP.b0 3
      have v4 : wr.cell? ⟨w.heap.size, 4, none⟩ = some (Value.slice none 0 0) := cell_of hP.b0 4
      have v5 : wr.cell? ⟨w.heap.size, 5, none⟩ = some (Value.slice none 0 0) := cell_of hP.b0 5
      have v6 : wr.cell? ⟨w.heap.size, 6, none⟩ = some (Value.slice none 0 0) := cell_of hP.b0 6
      have o0 : wr.cell? ⟨w.heap.size + 1, 0, none⟩ = some (.int .i64 2) := cell_of hP.b1 0
      have o1 : wr.cell? ⟨w.heap.size + 1, 1, none⟩ = some (.int .i64 100) := cell_of hP.b1 1
      have o2 : wr.cell? ⟨w.heap.size + 1, 2, none⟩ = some (.int .i64 10) := cell_of hP.b1 2
      have s0 : wr.cell? ⟨w2.heap.size, 0, none⟩ = some (.int .i64 0) := cell_of hP.b6 0
      have HP := Lib.hid hP
      clear hP
      go_wp2_with (go_at_call 49; refine (HD0.out _).mono ?_; rintro e5 w5 ⟨rfl, hb5⟩; have HP5 := Lib.hid (HP.out.on hb5); have t0 : w5.cell? ⟨w2.heap.size, 0, none⟩ = some (.int .i64 0) := cell_of HP5.out.b6 0; have t1 : w5.cell? ⟨w2.heap.size, 1, none⟩ = some (.slice none 0 0) := cell_of HP5.out.b6 1; have f0 : w5.frozen? ⟨w2.heap.size, 0, none⟩ = false := free_of HP5.out.b6 0; have f1 : w5.frozen? ⟨w2.heap.size, 1, none⟩ = false := free_of HP5.out.b6 1; clear v0 v1 v2 v3 v4 v5 v6 o0 o1 o2 s0)
      go_roundg 2
      case rel =>
        exact .inr (.inl ⟨rfl, (HP5.out.set1 (.slice none 0 0)).set0 1⟩)
      case measure => omega
    · have v0 : wr.cell? ⟨w.heap.size, 0, none⟩ = some (Value.int .u64 1) := cell_of hP.b0 0
      have v1 : wr.cell? ⟨w.heap.size, 1, none⟩ = some (Value.int .u64 1) := cell_of hP.b0 1
      have v2 : wr.cell? ⟨w.heap.size, 2, none⟩ = some (Value.int .u64 0) := cell_of hP.b0 2
      have v3 : wr.cell? ⟨w.heap.size, 3, none⟩ = some (Value.slice none 0 0) := cell_of hP.b0 3
      have v4 : wr.cell? ⟨w.heap.size, 4, none⟩ = some (Value.slice none 0 0) := cell_of hP.b0 4
      have v5 : wr.cell? ⟨w.heap.size, 5, none⟩ = some (Value.slice none 0 0) := cell_of hP.b0 5
      have v6 : wr.cell? ⟨w.heap.size, 6, none⟩ = some (Value.slice none 0 0) := cell_of hP.b0 6
      have o0 : wr.cell? ⟨w.heap.size + 1, 0, none⟩ = some (.int .i64 2) := cell_of hP.b1 0
      have o1 : wr.cell? ⟨w.heap.size + 1, 1, none⟩ = some (.int .i64 100) := cell_of hP.b1 1
      have o2 : wr.cell? ⟨w.heap.size + 1, 2, none⟩ = some (.int .i64 10) := cell_of hP.b1 2
      have s0 : wr.cell? ⟨w2.heap.size, 0, none⟩ = some (.int .i64 1) := cell_of hP.b6 0
      have HP := Lib.hid hP
      clear hP
      go_wp2_with (go_at_call 49; refine (HD1.out _).mono ?_; rintro e5 w5 ⟨rfl, hb5⟩; have HP5 := Lib.hid (HP.out.on hb5); have t0 : w5.cell? ⟨w2.heap.size, 0, none⟩ = some (.int .i64 1) := cell_of HP5.out.b6 0; have t1 : w5.cell? ⟨w2.heap.size, 1, none⟩ = some (.slice none 0 0) := cell_of HP5.out.b6 1; have f0 : w5.frozen? ⟨w2.heap.size, 0, none⟩ = false := free_of HP5.out.b6 0; have f1 : w5.frozen? ⟨w2.heap.size, 1, none⟩ = false := free_of HP5.out.b6 1; clear v0 v1 v2 v3 v4 v5 v6 o0 o1 o2 s0)
      go_roundg 1
      case rel =>
        exact .inr (.inr (.inl ⟨rfl, (HP5.out.set1 (.slice none 0 0)).set0 2⟩))
      case measure => omega
    · have v0 : wr.cell? ⟨w.heap.size, 0, none⟩ = some (Value.int .u64 1) := cell_of hP.b0 0
      have v1 : wr.cell? ⟨w.heap.size, 1, none⟩ = some (Value.int .u64 1) := cell_of hP.b0 1
      have v2 : wr.cell? ⟨w.heap.size, 2, none⟩ = some (Value.int .u64 0) := cell_of hP.b0 2
      have v3 : wr.cell? ⟨w.heap.size, 3, none⟩ = some (Value.slice none 0 0) := cell_of hP.b0 3
      have v4 : wr.cell? ⟨w.heap.size, 4, none⟩ = some (Value.slice none 0 0) := cell_of hP.b0 4
      have v5 : wr.cell? ⟨w.heap.size, 5, none⟩ = some (Value.slice none 0 0) := cell_of hP.b0 5
      have v6 : wr.cell? ⟨w.heap.size, 6, none⟩ = some (Value.slice none 0 0) := cell_of hP.b0 6
      have o0 : wr.cell? ⟨w.heap.size + 1, 0, none⟩ = some (.int .i64 2) := cell_of hP.b1 0
      have o1 : wr.cell? ⟨w.heap.size + 1, 1, none⟩ = some (.int .i64 100) := cell_of hP.b1 1
      have o2 : wr.cell? ⟨w.heap.size + 1, 2, none⟩ = some (.int .i64 10) := cell_of hP.b1 2
      have s0 : wr.cell? ⟨w2.heap.size, 0, none⟩ = some (.int .i64 2) := cell_of hP.b6 0
      have HP := Lib.hid hP
      clear hP
      go_wp2_with (go_at_call 49; refine (HD2.out _).mono ?_; rintro e5 w5 ⟨rfl, hb5⟩; have HP5 := Lib.hid (HP.out.on hb5); have t0 : w5.cell? ⟨w2.heap.size, 0, none⟩ = some (.int .i64 2) := cell_of HP5.out.b6 0; have t1 : w5.cell? ⟨w2.heap.size, 1, none⟩ = some (.slice none 0 0) := cell_of HP5.out.b6 1; have f0 : w5.frozen? ⟨w2.heap.size, 0, none⟩ = false := free_of HP5.out.b6 0; have f1 : w5.frozen? ⟨w2.heap.size, 1, none⟩ = false := free_of HP5.out.b6 1; clear v0 v1 v2 v3 v4 v5 v6 o0 o1 o2 s0)
      go_roundg 0
      case rel =>
        exact .inr (.inr (.inr ⟨rfl, (HP5.out.set1 (.slice none 0 0)).set0 3⟩))
      case measure => omega
    · have s0 : wr.cell? ⟨w2.heap.size, 0, none⟩ = some (.int .i64 3) := cell_of hP.b6 0
      have s1 : wr.cell? ⟨w2.heap.size, 1, none⟩ = some (.slice none 0 0) := cell_of hP.b6 1
      have HP := Lib.hid hP
      clear hP
      have HX := Lib.hid (show wr.heap[w.heap.size + 1 + 1]? = some (.cells #[.int .i64 0, .slice none 0 0, .slice none 0 0] 94 (0, 0)) from HP.out.b4)
      go_wp2_with (refine wpList_store_back rfl 94 _ _ rfl (w.heap.size + 1 + 1) 94 #[.int .i64 0, .slice none 0 0, .slice none 0 0] rfl rfl HX.out Try.size94 coOne ?_)
      try rw [Exit.noGoto_ret]
      exact bodyPost_ret (results_cell_tmp rfl _ _ (w.heap.size + 1 + 1) 94 #[.int .i64 0, .slice none 0 0, .slice none 0 0] (0, 0) _ rfl HX.out Try.underlying94 rfl Try.size94) rfl ⟨rfl, HP.out.below⟩
end Go.Proofs.Ythhdameaihclmaa
