/- span of package pick, of the lists that layer 16's awake gives it. Conditions: that the lists lie in memory. -/
import Derived.Test.YthhdameaihclmaaPf
import Derived.BigRegion
namespace Go.Proofs.Ythhdameaihclmaa
open Go.RowKit Sk

def spC : Nat → Array Value
  | 0 => #[.int .u64 0, .int .i64 0, .int .i64 0, .string ⟨#[]⟩, .string ⟨#[]⟩, .int .u64 0, .int .u64 0]
  | 1 => #[.int .u64 0, .int .i64 0, .int .i64 0, .string ⟨#[97]⟩, .string ⟨#[99]⟩, .int .u64 0, .int .u64 0]
  | _ => #[.int .u64 0, .int .i64 0, .int .i64 0, .string ⟨#[97]⟩, .string ⟨#[100]⟩, .int .u64 0, .int .u64 0]
theorem Try.size69 : (Try.prog.info? 69).map (·.size) = some 7 := by kernel_rfl
theorem spOne : (#[.int .u64 0, .int .i64 0, .int .i64 0, .string ⟨#[97]⟩, .string ⟨#[100]⟩, .int .u64 0, .int .u64 0] : Array Value).all (·.oneCell') = true := by simp [Value.oneCell']
/-- The state behind n tables. -/
structure SS (w : World) (n : Nat) (wr : World) : Prop where
  box : wr.heap[w.heap.size]? = some (.cells (spC n) 69 (0, 0))
  below : Below w.heap.size w wr
theorem SS.on {w wr W : World} {n : Nat} (h : SS w n wr) (hb : Below wr.heap.size wr W) : SS w n W := ⟨heap_on hb h.box, below_step h.below hb (Nat.le_refl _)⟩
theorem SS.turn {w wr : World} {n k : Nat} (h : SS w n wr) (f l : Value) (he : ((spC n).setIfInBounds 3 f).setIfInBounds 4 l = spC k) : SS w k ((wr.setCell ⟨w.heap.size, 3, none⟩ f).setCell ⟨w.heap.size, 4, none⟩ l) := by
  refine ⟨?_, (h.below.setCell (p := ⟨w.heap.size, 3, none⟩) (Nat.le_refl _) _).setCell (p := ⟨w.heap.size, 4, none⟩) (Nat.le_refl _) _⟩
  rw [heap_setCell_same _ _ _ _ _ _ (heap_setCell_same _ _ _ _ _ _ h.box), he]
theorem l97 : (⟨#[97]⟩ : ByteArray).toList = [97] := ByteArray.toList_eq _
theorem l98 : (⟨#[98]⟩ : ByteArray).toList = [98] := ByteArray.toList_eq _
theorem l99 : (⟨#[99]⟩ : ByteArray).toList = [99] := ByteArray.toList_eq _
theorem l100 : (⟨#[100]⟩ : ByteArray).toList = [100] := ByteArray.toList_eq _
/-- The first n cells of a block lie at g. -/
def AtC (w : World) (g n : Nat) (cs : Array Value) : Prop := ∀ (i : Nat) (v : Value), i < n → cs[i]? = some v → w.cell? ⟨g, i, none⟩ = some v
theorem AtC.on {w w' : World} {g n : Nat} {cs : Array Value} (h : AtC w g n cs) (hb : Below w.heap.size w w') : AtC w' g n cs := fun i v h1 h2 => cell_on hb (h i v h1 h2)

set_option maxRecDepth 100000 in
set_option maxHeartbeats 8000000 in
theorem span1_any (w : World) (gl gi ci : Nat) (hl : w.heap[gl]? = some (.cells #[.slice (some ⟨gi, 0, none⟩) 2 ci] 88 (0, 0))) (hi : AtC w gi 14 cs0) :
    Calls Try.prog 50 #[.slice (some ⟨gl, 0, none⟩) 1 1] w fun e w' => e = .returned (.tuple #[.agg (spC 2), .bool true]) ∧ Below w.heap.size w w' := by
  have HL := Lib.hid hl
  have HI := Lib.hid hi
  clear hl hi
  have HS0 := Lib.hid (show SS w 0 (w.alloc (.cells (spC 0) 69)) from ⟨heap_alloc_new _ _, (Below.refl _ _).alloc (Nat.le_refl _) _⟩)
  go_enter Try.func50, Try.ntmps50
  go_wp2
  go_loopw [3, 10] (fun s i wr => (s = .bool false ∧ i = .int .i64 0 ∧ SS w 0 wr) ∨ (s = .bool true ∧ i = .int .i64 1 ∧ SS w 2 wr)) (fun _ i _ => 1 - (intOf i).toNat)
  case atStart => exact .inl ⟨rfl, rfl, HS0.out⟩
  case round =>
    clear HS0
    rcases hrel with ⟨rfl, rfl, hS⟩ | ⟨rfl, rfl, hS⟩
    all_goals (have HS := Lib.hid hS; clear hS)
    · have q0 : wr.cell? ⟨gl, 0, none⟩ = some (.slice (some ⟨gi, 0, none⟩) 2 ci) := cell_of (heap_on HS.out.below HL.out) 0
      go_wp2
      clear q0
      obtain ⟨w1, rfl⟩ : ∃ w1, w1 = wr := ⟨_, rfl⟩
      go_loopw [3, 16] (fun s j wr => (s = .bool false ∧ j = .int .i64 0 ∧ SS w 0 wr) ∨ (s = .bool true ∧ j = .int .i64 1 ∧ SS w 1 wr) ∨ (s = .bool true ∧ j = .int .i64 2 ∧ SS w 2 wr)) (fun _ j _ => 2 - (intOf j).toNat)
      case atStart => exact .inl ⟨rfl, rfl, HS.out⟩
      case round =>
        clear HS
        rcases hrel with ⟨rfl, rfl, hS⟩ | ⟨rfl, rfl, hS⟩ | ⟨rfl, rfl, hS⟩
        · obtain ⟨w2, rfl⟩ : ∃ w2, w2 = wr := ⟨_, rfl⟩
          have c0 : w2.cell? ⟨gi, 0, none⟩ = some (Value.int .u64 1) := (HI.out.on hS.below) 0 _ (by omega) rfl
          have c1 : w2.cell? ⟨gi, 1, none⟩ = some (Value.int .i64 9) := (HI.out.on hS.below) 1 _ (by omega) rfl
          have c2 : w2.cell? ⟨gi, 2, none⟩ = some (Value.int .i64 1) := (HI.out.on hS.below) 2 _ (by omega) rfl
          have c3 : w2.cell? ⟨gi, 3, none⟩ = some (Value.string ⟨#[97]⟩) := (HI.out.on hS.below) 3 _ (by omega) rfl
          have c4 : w2.cell? ⟨gi, 4, none⟩ = some (Value.string ⟨#[99]⟩) := (HI.out.on hS.below) 4 _ (by omega) rfl
          have c5 : w2.cell? ⟨gi, 5, none⟩ = some (Value.int .u64 1) := (HI.out.on hS.below) 5 _ (by omega) rfl
          have c6 : w2.cell? ⟨gi, 6, none⟩ = some (Value.int .u64 1) := (HI.out.on hS.below) 6 _ (by omega) rfl
          have hlt := (Array.getElem?_eq_some_iff.1 hS.box).1
          have hne : ¬ w2.heap.size = w.heap.size := by omega
          have hne2 : ¬ w.heap.size = w2.heap.size := by omega
          have HS := Lib.hid hS
          clear hS hlt
          go_upto_region 8 with fail
          have HS1 := Lib.hid (HS.out.on ((Below.refl _ _).alloc (Nat.le_refl _) (.cells #[.int .u64 1, .int .i64 9, .int .i64 1, .string ⟨#[97]⟩, .string ⟨#[99]⟩, .int .u64 1, .int .u64 1] 69)))
          have HA1 := Lib.hid (heap_alloc_new w2 (.cells #[.int .u64 1, .int .i64 9, .int .i64 1, .string ⟨#[97]⟩, .string ⟨#[99]⟩, .int .u64 1, .int .u64 1] 69))
          clear c0 c1 c2 c3 c4 c5 c6
          generalize w2.alloc (.cells #[.int .u64 1, .int .i64 9, .int .i64 1, .string ⟨#[97]⟩, .string ⟨#[99]⟩, .int .u64 1, .int .u64 1] 69) = W3 at *
          have a3 : W3.cell? ⟨w2.heap.size, 3, none⟩ = some (Value.string ⟨#[97]⟩) := cell_of HA1.out 3
          have a4 : W3.cell? ⟨w2.heap.size, 4, none⟩ = some (Value.string ⟨#[99]⟩) := cell_of HA1.out 4
          have b3 : W3.cell? ⟨w.heap.size, 3, none⟩ = some (.string ⟨#[]⟩) := cell_of HS1.out.box 3
          have b4 : W3.cell? ⟨w.heap.size, 4, none⟩ = some (.string ⟨#[]⟩) := cell_of HS1.out.box 4
          have z3 : W3.frozen? ⟨w.heap.size, 3, none⟩ = false := free_of HS1.out.box 3
          have z4 : W3.frozen? ⟨w.heap.size, 4, none⟩ = false := free_of HS1.out.box 4
          go_region
          have HS2 := Lib.hid ((HS1.out.turn (k := 1) (.string ⟨#[97]⟩) (.string ⟨#[99]⟩) rfl).on (Below.refl _ _).drew)
          have HA2 := Lib.hid (show ((W3.setCell ⟨w.heap.size, 3, none⟩ (.string ⟨#[97]⟩)).setCell ⟨w.heap.size, 4, none⟩ (.string ⟨#[99]⟩)).drew.heap[w2.heap.size]? = _ from ((Below.heap_setCell _ _ _ w2.heap.size (by exact hne)).trans ((Below.heap_setCell _ _ _ w2.heap.size (by exact hne)).trans HA1.out)))
          clear a3 a4 b3 b4 z3 z4
          go_upto_region 9 with fail
          generalize ((W3.setCell ⟨w.heap.size, 3, none⟩ (.string ⟨#[97]⟩)).setCell ⟨w.heap.size, 4, none⟩ (.string ⟨#[99]⟩)).drew = W4 at *
          have hmin : ∀ w : World, (Builtin.min_ #[9, 9] 9 #[.string ⟨#[97]⟩, .string ⟨#[97]⟩]).run Try.prog w = .ok (.string ⟨#[97]⟩) w := fun _ => by kernel_rfl
          have hmax : ∀ w : World, (Builtin.max_ #[9, 9] 9 #[.string ⟨#[99]⟩, .string ⟨#[99]⟩]).run Try.prog w = .ok (.string ⟨#[99]⟩) w := fun _ => by kernel_rfl
          have a3 : W4.cell? ⟨w2.heap.size, 3, none⟩ = some (Value.string ⟨#[97]⟩) := cell_of HA2.out 3
          have a4 : W4.cell? ⟨w2.heap.size, 4, none⟩ = some (Value.string ⟨#[99]⟩) := cell_of HA2.out 4
          have b3 : W4.cell? ⟨w.heap.size, 3, none⟩ = some (.string ⟨#[97]⟩) := cell_of HS2.out.box 3
          have b4 : W4.cell? ⟨w.heap.size, 4, none⟩ = some (.string ⟨#[99]⟩) := cell_of HS2.out.box 4
          have z3 : W4.frozen? ⟨w.heap.size, 3, none⟩ = false := free_of HS2.out.box 3
          have z4 : W4.frozen? ⟨w.heap.size, 4, none⟩ = false := free_of HS2.out.box 4
          go_region
          go_wp2
          go_roundw
          case rel => exact .inr (.inl ⟨rfl, rfl, (HS2.out.turn (k := 1) (.string ⟨#[97]⟩) (.string ⟨#[99]⟩) rfl).on (Below.refl _ _).drew⟩)
          case measure => simp [intOf]
        · obtain ⟨w2, rfl⟩ : ∃ w2, w2 = wr := ⟨_, rfl⟩
          have c0 : w2.cell? ⟨gi, 7, none⟩ = some (Value.int .u64 2) := (HI.out.on hS.below) 7 _ (by omega) rfl
          have c1 : w2.cell? ⟨gi, 8, none⟩ = some (Value.int .i64 9) := (HI.out.on hS.below) 8 _ (by omega) rfl
          have c2 : w2.cell? ⟨gi, 9, none⟩ = some (Value.int .i64 1) := (HI.out.on hS.below) 9 _ (by omega) rfl
          have c3 : w2.cell? ⟨gi, 10, none⟩ = some (Value.string ⟨#[98]⟩) := (HI.out.on hS.below) 10 _ (by omega) rfl
          have c4 : w2.cell? ⟨gi, 11, none⟩ = some (Value.string ⟨#[100]⟩) := (HI.out.on hS.below) 11 _ (by omega) rfl
          have c5 : w2.cell? ⟨gi, 12, none⟩ = some (Value.int .u64 2) := (HI.out.on hS.below) 12 _ (by omega) rfl
          have c6 : w2.cell? ⟨gi, 13, none⟩ = some (Value.int .u64 2) := (HI.out.on hS.below) 13 _ (by omega) rfl
          have hlt := (Array.getElem?_eq_some_iff.1 hS.box).1
          have hne : ¬ w2.heap.size = w.heap.size := by omega
          have hne2 : ¬ w.heap.size = w2.heap.size := by omega
          have HS := Lib.hid hS
          clear hS hlt
          go_upto_region 9 with fail
          have HS1 := Lib.hid (HS.out.on ((Below.refl _ _).alloc (Nat.le_refl _) (.cells #[.int .u64 2, .int .i64 9, .int .i64 1, .string ⟨#[98]⟩, .string ⟨#[100]⟩, .int .u64 2, .int .u64 2] 69)))
          have HA1 := Lib.hid (heap_alloc_new w2 (.cells #[.int .u64 2, .int .i64 9, .int .i64 1, .string ⟨#[98]⟩, .string ⟨#[100]⟩, .int .u64 2, .int .u64 2] 69))
          clear c0 c1 c2 c3 c4 c5 c6
          generalize w2.alloc (.cells #[.int .u64 2, .int .i64 9, .int .i64 1, .string ⟨#[98]⟩, .string ⟨#[100]⟩, .int .u64 2, .int .u64 2] 69) = W3 at *
          have hmin : ∀ w : World, (Builtin.min_ #[9, 9] 9 #[.string ⟨#[97]⟩, .string ⟨#[98]⟩]).run Try.prog w = .ok (.string ⟨#[97]⟩) w := fun _ => by kernel_rfl
          have hmax : ∀ w : World, (Builtin.max_ #[9, 9] 9 #[.string ⟨#[99]⟩, .string ⟨#[100]⟩]).run Try.prog w = .ok (.string ⟨#[100]⟩) w := fun _ => by kernel_rfl
          have a3 : W3.cell? ⟨w2.heap.size, 3, none⟩ = some (Value.string ⟨#[98]⟩) := cell_of HA1.out 3
          have a4 : W3.cell? ⟨w2.heap.size, 4, none⟩ = some (Value.string ⟨#[100]⟩) := cell_of HA1.out 4
          have b3 : W3.cell? ⟨w.heap.size, 3, none⟩ = some (.string ⟨#[97]⟩) := cell_of HS1.out.box 3
          have b4 : W3.cell? ⟨w.heap.size, 4, none⟩ = some (.string ⟨#[99]⟩) := cell_of HS1.out.box 4
          have z3 : W3.frozen? ⟨w.heap.size, 3, none⟩ = false := free_of HS1.out.box 3
          have z4 : W3.frozen? ⟨w.heap.size, 4, none⟩ = false := free_of HS1.out.box 4
          go_region
          go_wp2
          go_roundw
          case rel => exact .inr (.inr ⟨rfl, rfl, (HS1.out.turn (k := 2) (.string ⟨#[97]⟩) (.string ⟨#[100]⟩) rfl).on (Below.refl _ _).drew⟩)
          case measure => simp [intOf]
        · have HS := Lib.hid hS
          clear hS
          go_wp2
          go_roundw
          case rel => exact .inr (⟨rfl, rfl, HS.out⟩)
          case measure => simp [intOf]
    · have b0 : wr.cell? ⟨w.heap.size, 0, none⟩ = some (Value.int .u64 0) := cell_of HS.out.box 0
      have b1 : wr.cell? ⟨w.heap.size, 1, none⟩ = some (Value.int .i64 0) := cell_of HS.out.box 1
      have b2 : wr.cell? ⟨w.heap.size, 2, none⟩ = some (Value.int .i64 0) := cell_of HS.out.box 2
      have b3 : wr.cell? ⟨w.heap.size, 3, none⟩ = some (Value.string ⟨#[97]⟩) := cell_of HS.out.box 3
      have b4 : wr.cell? ⟨w.heap.size, 4, none⟩ = some (Value.string ⟨#[100]⟩) := cell_of HS.out.box 4
      have b5 : wr.cell? ⟨w.heap.size, 5, none⟩ = some (Value.int .u64 0) := cell_of HS.out.box 5
      have b6 : wr.cell? ⟨w.heap.size, 6, none⟩ = some (Value.int .u64 0) := cell_of HS.out.box 6
      have HBX := Lib.hid (show wr.heap[w.heap.size]? = some (.cells #[.int .u64 0, .int .i64 0, .int .i64 0, .string ⟨#[97]⟩, .string ⟨#[100]⟩, .int .u64 0, .int .u64 0] 69 (0, 0)) from HS.out.box)
      go_wp2_with (refine wpList_store_back rfl 69 _ _ rfl w.heap.size 69 #[.int .u64 0, .int .i64 0, .int .i64 0, .string ⟨#[97]⟩, .string ⟨#[100]⟩, .int .u64 0, .int .u64 0] rfl rfl HBX.out Try.size69 spOne ?_)
      exact bodyPost_ret (results_cell_tmp rfl _ _ w.heap.size 69 (spC 2) (0, 0) _ rfl HS.out.box Try.underlying69 rfl Try.size69) rfl ⟨rfl, HS.out.below⟩
set_option maxRecDepth 100000 in
set_option maxHeartbeats 8000000 in
theorem span2_any (w : World) (gl gi ci : Nat) (go co : Nat) (hl : w.heap[gl]? = some (.cells #[.slice (some ⟨gi, 0, none⟩) 2 ci, .slice (some ⟨go, 0, none⟩) 1 co] 88 (0, 0))) (hi : AtC w gi 14 cs0) (ho : AtC w go 7 cs1) :
    Calls Try.prog 50 #[.slice (some ⟨gl, 0, none⟩) 2 2] w fun e w' => e = .returned (.tuple #[.agg (spC 2), .bool true]) ∧ Below w.heap.size w w' := by
  have HL := Lib.hid hl
  have HI := Lib.hid hi
  have HO := Lib.hid ho
  clear ho
  clear hl hi
  have HS0 := Lib.hid (show SS w 0 (w.alloc (.cells (spC 0) 69)) from ⟨heap_alloc_new _ _, (Below.refl _ _).alloc (Nat.le_refl _) _⟩)
  go_enter Try.func50, Try.ntmps50
  go_wp2
  go_loopw [3, 10] (fun s i wr => (s = .bool false ∧ i = .int .i64 0 ∧ SS w 0 wr) ∨ (s = .bool true ∧ i = .int .i64 1 ∧ SS w 2 wr) ∨ (s = .bool true ∧ i = .int .i64 2 ∧ SS w 2 wr)) (fun _ i _ => 2 - (intOf i).toNat)
  case atStart => exact .inl ⟨rfl, rfl, HS0.out⟩
  case round =>
    clear HS0
    rcases hrel with ⟨rfl, rfl, hS⟩ | ⟨rfl, rfl, hS⟩ | ⟨rfl, rfl, hS⟩
    all_goals (have HS := Lib.hid hS; clear hS)
    · have q0 : wr.cell? ⟨gl, 0, none⟩ = some (.slice (some ⟨gi, 0, none⟩) 2 ci) := cell_of (heap_on HS.out.below HL.out) 0
      go_wp2
      clear q0
      obtain ⟨w1, rfl⟩ : ∃ w1, w1 = wr := ⟨_, rfl⟩
      go_loopw [3, 16] (fun s j wr => (s = .bool false ∧ j = .int .i64 0 ∧ SS w 0 wr) ∨ (s = .bool true ∧ j = .int .i64 1 ∧ SS w 1 wr) ∨ (s = .bool true ∧ j = .int .i64 2 ∧ SS w 2 wr)) (fun _ j _ => 2 - (intOf j).toNat)
      case atStart => exact .inl ⟨rfl, rfl, HS.out⟩
      case round =>
        clear HS
        rcases hrel with ⟨rfl, rfl, hS⟩ | ⟨rfl, rfl, hS⟩ | ⟨rfl, rfl, hS⟩
        · obtain ⟨w2, rfl⟩ : ∃ w2, w2 = wr := ⟨_, rfl⟩
          have c0 : w2.cell? ⟨gi, 0, none⟩ = some (Value.int .u64 1) := (HI.out.on hS.below) 0 _ (by omega) rfl
          have c1 : w2.cell? ⟨gi, 1, none⟩ = some (Value.int .i64 9) := (HI.out.on hS.below) 1 _ (by omega) rfl
          have c2 : w2.cell? ⟨gi, 2, none⟩ = some (Value.int .i64 1) := (HI.out.on hS.below) 2 _ (by omega) rfl
          have c3 : w2.cell? ⟨gi, 3, none⟩ = some (Value.string ⟨#[97]⟩) := (HI.out.on hS.below) 3 _ (by omega) rfl
          have c4 : w2.cell? ⟨gi, 4, none⟩ = some (Value.string ⟨#[99]⟩) := (HI.out.on hS.below) 4 _ (by omega) rfl
          have c5 : w2.cell? ⟨gi, 5, none⟩ = some (Value.int .u64 1) := (HI.out.on hS.below) 5 _ (by omega) rfl
          have c6 : w2.cell? ⟨gi, 6, none⟩ = some (Value.int .u64 1) := (HI.out.on hS.below) 6 _ (by omega) rfl
          have hlt := (Array.getElem?_eq_some_iff.1 hS.box).1
          have hne : ¬ w2.heap.size = w.heap.size := by omega
          have hne2 : ¬ w.heap.size = w2.heap.size := by omega
          have HS := Lib.hid hS
          clear hS hlt
          go_upto_region 8 with fail
          have HS1 := Lib.hid (HS.out.on ((Below.refl _ _).alloc (Nat.le_refl _) (.cells #[.int .u64 1, .int .i64 9, .int .i64 1, .string ⟨#[97]⟩, .string ⟨#[99]⟩, .int .u64 1, .int .u64 1] 69)))
          have HA1 := Lib.hid (heap_alloc_new w2 (.cells #[.int .u64 1, .int .i64 9, .int .i64 1, .string ⟨#[97]⟩, .string ⟨#[99]⟩, .int .u64 1, .int .u64 1] 69))
          clear c0 c1 c2 c3 c4 c5 c6
          generalize w2.alloc (.cells #[.int .u64 1, .int .i64 9, .int .i64 1, .string ⟨#[97]⟩, .string ⟨#[99]⟩, .int .u64 1, .int .u64 1] 69) = W3 at *
          have a3 : W3.cell? ⟨w2.heap.size, 3, none⟩ = some (Value.string ⟨#[97]⟩) := cell_of HA1.out 3
          have a4 : W3.cell? ⟨w2.heap.size, 4, none⟩ = some (Value.string ⟨#[99]⟩) := cell_of HA1.out 4
          have b3 : W3.cell? ⟨w.heap.size, 3, none⟩ = some (.string ⟨#[]⟩) := cell_of HS1.out.box 3
          have b4 : W3.cell? ⟨w.heap.size, 4, none⟩ = some (.string ⟨#[]⟩) := cell_of HS1.out.box 4
          have z3 : W3.frozen? ⟨w.heap.size, 3, none⟩ = false := free_of HS1.out.box 3
          have z4 : W3.frozen? ⟨w.heap.size, 4, none⟩ = false := free_of HS1.out.box 4
          go_region
          have HS2 := Lib.hid ((HS1.out.turn (k := 1) (.string ⟨#[97]⟩) (.string ⟨#[99]⟩) rfl).on (Below.refl _ _).drew)
          have HA2 := Lib.hid (show ((W3.setCell ⟨w.heap.size, 3, none⟩ (.string ⟨#[97]⟩)).setCell ⟨w.heap.size, 4, none⟩ (.string ⟨#[99]⟩)).drew.heap[w2.heap.size]? = _ from ((Below.heap_setCell _ _ _ w2.heap.size (by exact hne)).trans ((Below.heap_setCell _ _ _ w2.heap.size (by exact hne)).trans HA1.out)))
          clear a3 a4 b3 b4 z3 z4
          go_upto_region 9 with fail
          generalize ((W3.setCell ⟨w.heap.size, 3, none⟩ (.string ⟨#[97]⟩)).setCell ⟨w.heap.size, 4, none⟩ (.string ⟨#[99]⟩)).drew = W4 at *
          have hmin : ∀ w : World, (Builtin.min_ #[9, 9] 9 #[.string ⟨#[97]⟩, .string ⟨#[97]⟩]).run Try.prog w = .ok (.string ⟨#[97]⟩) w := fun _ => by kernel_rfl
          have hmax : ∀ w : World, (Builtin.max_ #[9, 9] 9 #[.string ⟨#[99]⟩, .string ⟨#[99]⟩]).run Try.prog w = .ok (.string ⟨#[99]⟩) w := fun _ => by kernel_rfl
          have a3 : W4.cell? ⟨w2.heap.size, 3, none⟩ = some (Value.string ⟨#[97]⟩) := cell_of HA2.out 3
          have a4 : W4.cell? ⟨w2.heap.size, 4, none⟩ = some (Value.string ⟨#[99]⟩) := cell_of HA2.out 4
          have b3 : W4.cell? ⟨w.heap.size, 3, none⟩ = some (.string ⟨#[97]⟩) := cell_of HS2.out.box 3
          have b4 : W4.cell? ⟨w.heap.size, 4, none⟩ = some (.string ⟨#[99]⟩) := cell_of HS2.out.box 4
          have z3 : W4.frozen? ⟨w.heap.size, 3, none⟩ = false := free_of HS2.out.box 3
          have z4 : W4.frozen? ⟨w.heap.size, 4, none⟩ = false := free_of HS2.out.box 4
          go_region
          go_wp2
          go_roundw
          case rel => exact .inr (.inl ⟨rfl, rfl, (HS2.out.turn (k := 1) (.string ⟨#[97]⟩) (.string ⟨#[99]⟩) rfl).on (Below.refl _ _).drew⟩)
          case measure => simp [intOf]
        · obtain ⟨w2, rfl⟩ : ∃ w2, w2 = wr := ⟨_, rfl⟩
          have c0 : w2.cell? ⟨gi, 7, none⟩ = some (Value.int .u64 2) := (HI.out.on hS.below) 7 _ (by omega) rfl
          have c1 : w2.cell? ⟨gi, 8, none⟩ = some (Value.int .i64 9) := (HI.out.on hS.below) 8 _ (by omega) rfl
          have c2 : w2.cell? ⟨gi, 9, none⟩ = some (Value.int .i64 1) := (HI.out.on hS.below) 9 _ (by omega) rfl
          have c3 : w2.cell? ⟨gi, 10, none⟩ = some (Value.string ⟨#[98]⟩) := (HI.out.on hS.below) 10 _ (by omega) rfl
          have c4 : w2.cell? ⟨gi, 11, none⟩ = some (Value.string ⟨#[100]⟩) := (HI.out.on hS.below) 11 _ (by omega) rfl
          have c5 : w2.cell? ⟨gi, 12, none⟩ = some (Value.int .u64 2) := (HI.out.on hS.below) 12 _ (by omega) rfl
          have c6 : w2.cell? ⟨gi, 13, none⟩ = some (Value.int .u64 2) := (HI.out.on hS.below) 13 _ (by omega) rfl
          have hlt := (Array.getElem?_eq_some_iff.1 hS.box).1
          have hne : ¬ w2.heap.size = w.heap.size := by omega
          have hne2 : ¬ w.heap.size = w2.heap.size := by omega
          have HS := Lib.hid hS
          clear hS hlt
          go_upto_region 9 with fail
          have HS1 := Lib.hid (HS.out.on ((Below.refl _ _).alloc (Nat.le_refl _) (.cells #[.int .u64 2, .int .i64 9, .int .i64 1, .string ⟨#[98]⟩, .string ⟨#[100]⟩, .int .u64 2, .int .u64 2] 69)))
          have HA1 := Lib.hid (heap_alloc_new w2 (.cells #[.int .u64 2, .int .i64 9, .int .i64 1, .string ⟨#[98]⟩, .string ⟨#[100]⟩, .int .u64 2, .int .u64 2] 69))
          clear c0 c1 c2 c3 c4 c5 c6
          generalize w2.alloc (.cells #[.int .u64 2, .int .i64 9, .int .i64 1, .string ⟨#[98]⟩, .string ⟨#[100]⟩, .int .u64 2, .int .u64 2] 69) = W3 at *
          have hmin : ∀ w : World, (Builtin.min_ #[9, 9] 9 #[.string ⟨#[97]⟩, .string ⟨#[98]⟩]).run Try.prog w = .ok (.string ⟨#[97]⟩) w := fun _ => by kernel_rfl
          have hmax : ∀ w : World, (Builtin.max_ #[9, 9] 9 #[.string ⟨#[99]⟩, .string ⟨#[100]⟩]).run Try.prog w = .ok (.string ⟨#[100]⟩) w := fun _ => by kernel_rfl
          have a3 : W3.cell? ⟨w2.heap.size, 3, none⟩ = some (Value.string ⟨#[98]⟩) := cell_of HA1.out 3
          have a4 : W3.cell? ⟨w2.heap.size, 4, none⟩ = some (Value.string ⟨#[100]⟩) := cell_of HA1.out 4
          have b3 : W3.cell? ⟨w.heap.size, 3, none⟩ = some (.string ⟨#[97]⟩) := cell_of HS1.out.box 3
          have b4 : W3.cell? ⟨w.heap.size, 4, none⟩ = some (.string ⟨#[99]⟩) := cell_of HS1.out.box 4
          have z3 : W3.frozen? ⟨w.heap.size, 3, none⟩ = false := free_of HS1.out.box 3
          have z4 : W3.frozen? ⟨w.heap.size, 4, none⟩ = false := free_of HS1.out.box 4
          go_region
          go_wp2
          go_roundw
          case rel => exact .inr (.inr ⟨rfl, rfl, (HS1.out.turn (k := 2) (.string ⟨#[97]⟩) (.string ⟨#[100]⟩) rfl).on (Below.refl _ _).drew⟩)
          case measure => simp [intOf]
        · have HS := Lib.hid hS
          clear hS
          go_wp2
          go_roundw
          case rel => exact .inr (.inl ⟨rfl, rfl, HS.out⟩)
          case measure => simp [intOf]
    · have q0 : wr.cell? ⟨gl, 1, none⟩ = some (.slice (some ⟨go, 0, none⟩) 1 co) := cell_of (heap_on HS.out.below HL.out) 1
      go_wp2
      clear q0
      obtain ⟨w1, rfl⟩ : ∃ w1, w1 = wr := ⟨_, rfl⟩
      go_loopw [3, 16] (fun s j wr => (s = .bool true ∧ j = .int .i64 0 ∧ SS w 2 wr) ∨ (s = .bool true ∧ j = .int .i64 1 ∧ SS w 2 wr)) (fun _ j _ => 1 - (intOf j).toNat)
      case atStart => exact .inl ⟨rfl, rfl, HS.out⟩
      case round =>
        clear HS
        rcases hrel with ⟨rfl, rfl, hS⟩ | ⟨rfl, rfl, hS⟩
        · obtain ⟨w2, rfl⟩ : ∃ w2, w2 = wr := ⟨_, rfl⟩
          have c0 : w2.cell? ⟨go, 0, none⟩ = some (Value.int .u64 3) := (HO.out.on hS.below) 0 _ (by omega) rfl
          have c1 : w2.cell? ⟨go, 1, none⟩ = some (Value.int .i64 60) := (HO.out.on hS.below) 1 _ (by omega) rfl
          have c2 : w2.cell? ⟨go, 2, none⟩ = some (Value.int .i64 1) := (HO.out.on hS.below) 2 _ (by omega) rfl
          have c3 : w2.cell? ⟨go, 3, none⟩ = some (Value.string ⟨#[97]⟩) := (HO.out.on hS.below) 3 _ (by omega) rfl
          have c4 : w2.cell? ⟨go, 4, none⟩ = some (Value.string ⟨#[97]⟩) := (HO.out.on hS.below) 4 _ (by omega) rfl
          have c5 : w2.cell? ⟨go, 5, none⟩ = some (Value.int .u64 1) := (HO.out.on hS.below) 5 _ (by omega) rfl
          have c6 : w2.cell? ⟨go, 6, none⟩ = some (Value.int .u64 1) := (HO.out.on hS.below) 6 _ (by omega) rfl
          have hlt := (Array.getElem?_eq_some_iff.1 hS.box).1
          have hne : ¬ w2.heap.size = w.heap.size := by omega
          have hne2 : ¬ w.heap.size = w2.heap.size := by omega
          have HS := Lib.hid hS
          clear hS hlt
          go_upto_region 9 with fail
          have HS1 := Lib.hid (HS.out.on ((Below.refl _ _).alloc (Nat.le_refl _) (.cells #[.int .u64 3, .int .i64 60, .int .i64 1, .string ⟨#[97]⟩, .string ⟨#[97]⟩, .int .u64 1, .int .u64 1] 69)))
          have HA1 := Lib.hid (heap_alloc_new w2 (.cells #[.int .u64 3, .int .i64 60, .int .i64 1, .string ⟨#[97]⟩, .string ⟨#[97]⟩, .int .u64 1, .int .u64 1] 69))
          clear c0 c1 c2 c3 c4 c5 c6
          generalize w2.alloc (.cells #[.int .u64 3, .int .i64 60, .int .i64 1, .string ⟨#[97]⟩, .string ⟨#[97]⟩, .int .u64 1, .int .u64 1] 69) = W3 at *
          have hmin : ∀ w : World, (Builtin.min_ #[9, 9] 9 #[.string ⟨#[97]⟩, .string ⟨#[97]⟩]).run Try.prog w = .ok (.string ⟨#[97]⟩) w := fun _ => by kernel_rfl
          have hmax : ∀ w : World, (Builtin.max_ #[9, 9] 9 #[.string ⟨#[100]⟩, .string ⟨#[97]⟩]).run Try.prog w = .ok (.string ⟨#[100]⟩) w := fun _ => by kernel_rfl
          have a3 : W3.cell? ⟨w2.heap.size, 3, none⟩ = some (Value.string ⟨#[97]⟩) := cell_of HA1.out 3
          have a4 : W3.cell? ⟨w2.heap.size, 4, none⟩ = some (Value.string ⟨#[97]⟩) := cell_of HA1.out 4
          have b3 : W3.cell? ⟨w.heap.size, 3, none⟩ = some (.string ⟨#[97]⟩) := cell_of HS1.out.box 3
          have b4 : W3.cell? ⟨w.heap.size, 4, none⟩ = some (.string ⟨#[100]⟩) := cell_of HS1.out.box 4
          have z3 : W3.frozen? ⟨w.heap.size, 3, none⟩ = false := free_of HS1.out.box 3
          have z4 : W3.frozen? ⟨w.heap.size, 4, none⟩ = false := free_of HS1.out.box 4
          go_region
          go_wp2
          go_roundw
          case rel => exact .inr ⟨rfl, rfl, (HS1.out.turn (k := 2) (.string ⟨#[97]⟩) (.string ⟨#[100]⟩) rfl).on (Below.refl _ _).drew⟩
          case measure => simp [intOf]
        · have HS := Lib.hid hS
          clear hS
          go_wp2
          go_roundw
          case rel => exact .inr (.inr ⟨rfl, rfl, HS.out⟩)
          case measure => simp [intOf]
    · have b0 : wr.cell? ⟨w.heap.size, 0, none⟩ = some (Value.int .u64 0) := cell_of HS.out.box 0
      have b1 : wr.cell? ⟨w.heap.size, 1, none⟩ = some (Value.int .i64 0) := cell_of HS.out.box 1
      have b2 : wr.cell? ⟨w.heap.size, 2, none⟩ = some (Value.int .i64 0) := cell_of HS.out.box 2
      have b3 : wr.cell? ⟨w.heap.size, 3, none⟩ = some (Value.string ⟨#[97]⟩) := cell_of HS.out.box 3
      have b4 : wr.cell? ⟨w.heap.size, 4, none⟩ = some (Value.string ⟨#[100]⟩) := cell_of HS.out.box 4
      have b5 : wr.cell? ⟨w.heap.size, 5, none⟩ = some (Value.int .u64 0) := cell_of HS.out.box 5
      have b6 : wr.cell? ⟨w.heap.size, 6, none⟩ = some (Value.int .u64 0) := cell_of HS.out.box 6
      have HBX := Lib.hid (show wr.heap[w.heap.size]? = some (.cells #[.int .u64 0, .int .i64 0, .int .i64 0, .string ⟨#[97]⟩, .string ⟨#[100]⟩, .int .u64 0, .int .u64 0] 69 (0, 0)) from HS.out.box)
      go_wp2_with (refine wpList_store_back rfl 69 _ _ rfl w.heap.size 69 #[.int .u64 0, .int .i64 0, .int .i64 0, .string ⟨#[97]⟩, .string ⟨#[100]⟩, .int .u64 0, .int .u64 0] rfl rfl HBX.out Try.size69 spOne ?_)
      exact bodyPost_ret (results_cell_tmp rfl _ _ w.heap.size 69 (spC 2) (0, 0) _ rfl HS.out.box Try.underlying69 rfl Try.size69) rfl ⟨rfl, HS.out.below⟩
end Go.Proofs.Ythhdameaihclmaa
