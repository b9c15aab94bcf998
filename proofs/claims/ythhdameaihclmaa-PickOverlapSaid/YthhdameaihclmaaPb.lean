/- The sample version of layer 16's statements, and the empty one: order. Conditions: that its tables lie in memory. -/
import Derived.Test.YthhdameaihclmaaPa
namespace Go.Proofs.Ythhdameaihclmaa
open Go.RowKit Sk

def m1 : Mt := ⟨1, 9, 1, ⟨#[97]⟩, ⟨#[99]⟩, 1, 1⟩
def m2 : Mt := ⟨2, 9, 1, ⟨#[98]⟩, ⟨#[100]⟩, 2, 2⟩
def m3 : Mt := ⟨3, 60, 1, ⟨#[97]⟩, ⟨#[97]⟩, 1, 1⟩
def m4 : Mt := ⟨4, 50, 1, ⟨#[101]⟩, ⟨#[102]⟩, 1, 1⟩
def cs0 : Array Value := #[.int .u64 1, .int .i64 9, .int .i64 1, .string ⟨#[97]⟩, .string ⟨#[99]⟩, .int .u64 1, .int .u64 1, .int .u64 2, .int .i64 9, .int .i64 1, .string ⟨#[98]⟩, .string ⟨#[100]⟩, .int .u64 2, .int .u64 2]
def cs1 : Array Value := #[.int .u64 3, .int .i64 60, .int .i64 1, .string ⟨#[97]⟩, .string ⟨#[97]⟩, .int .u64 1, .int .u64 1, .int .u64 4, .int .i64 50, .int .i64 1, .string ⟨#[101]⟩, .string ⟨#[102]⟩, .int .u64 1, .int .u64 1]
def verS (g0 g1 : Nat) : Array Value := #[.int .u64 1, .int .u64 5, .int .u64 9, .slice (some ⟨g0, 0, none⟩) 2 2, .slice (some ⟨g1, 0, none⟩) 2 2, .slice none 0 0, .slice none 0 0]
def verE : Array Value := #[.int .u64 1, .int .u64 1, .int .u64 0, .slice none 0 0, .slice none 0 0, .slice none 0 0, .slice none 0 0]

theorem idx0 (a b c d : Value) (w : World) : (Instr.index 89 (.agg #[a, b, c, d]) (.int .i64 0)).run Try.prog w = .ok a w := by kernel_rfl
theorem idx1 (a b c d : Value) (w : World) : (Instr.index 89 (.agg #[a, b, c, d]) (.int .i64 1)).run Try.prog w = .ok b w := by kernel_rfl
theorem idx2 (a b c d : Value) (w : World) : (Instr.index 89 (.agg #[a, b, c, d]) (.int .i64 2)).run Try.prog w = .ok c w := by kernel_rfl
theorem idx3 (a b c d : Value) (w : World) : (Instr.index 89 (.agg #[a, b, c, d]) (.int .i64 3)).run Try.prog w = .ok d w := by kernel_rfl
theorem idxE (k : Nat) (hk : k < 4) (w : World) : (Instr.index 89 (.agg #[.slice none 0 0, .slice none 0 0, .slice none 0 0, .slice none 0 0]) (.int .i64 (k : Int))).run Try.prog w = .ok (.slice none 0 0) w := by
  obtain rfl | rfl | rfl | rfl : k = 0 ∨ k = 1 ∨ k = 2 ∨ k = 3 := by omega
  · exact idx0 _ _ _ _ w
  · exact idx1 _ _ _ _ w
  · exact idx2 _ _ _ _ w
  · exact idx3 _ _ _ _ w

set_option maxRecDepth 100000 in
set_option maxHeartbeats 1000000 in
theorem orderE_any (w : World) :
    Calls Try.prog 57 #[.agg verE] w fun e w' => e = .returned (.bool true) ∧ Below w.heap.size w w' := by
  unfold verE
  have hix := idxE
  go_enter Try.func57, Try.ntmps57
  go_wp2
  go_loop [9] (fun i => ∃ k : Nat, k ≤ 4 ∧ i = .int .i64 k) (fun i => 4 - (intOf i).toNat)
  case atStart => exact ⟨0, by omega, rfl⟩
  case round =>
    obtain ⟨k, hk, rfl⟩ := hrel
    by_cases hlt : k < 4
    · have hi := hix k hlt
      clear hix
      go_wp2
      go_loop [5] (fun j => j = .int .i64 1) (fun _ => 0)
      case atStart => rfl
      case round =>
        subst hrel
        go_wp2
        go_round
        case rel => exact ⟨k + 1, by omega, by go_num⟩
        case measure => simp [intOf]; omega
    · obtain rfl : k = 4 := by omega
      go_wp2
      go_ret
      exact ⟨rfl, (Below.refl _ _).alloc (Nat.le_refl _) _⟩

set_option maxRecDepth 100000 in
set_option maxHeartbeats 4000000 in
theorem orderS_any (w : World) (g0 g1 : Nat) (h0 : w.heap[g0]? = some (.cells cs0 69 (0, 0))) (h1 : w.heap[g1]? = some (.cells cs1 69 (0, 0))) :
    Calls Try.prog 57 #[.agg (verS g0 g1)] w fun e w' => e = .returned (.bool true) ∧ Below w.heap.size w w' := by
  have HB0 := Lib.hid ((Below.refl w.heap.size w).alloc (Nat.le_refl _) (.cells (verS g0 g1) 113))
  have H0 := Lib.hid h0
  have H1 := Lib.hid h1
  clear h0 h1
  unfold verS at *
  go_enter Try.func57, Try.ntmps57
  go_wp2
  go_loopw [9] (fun i wr => (i = .int .i64 0 ∨ i = .int .i64 1 ∨ i = .int .i64 2 ∨ i = .int .i64 3 ∨ i = .int .i64 4) ∧ Below w.heap.size w wr) (fun i _ => 4 - (intOf i).toNat)
  case atStart => exact ⟨.inl rfl, HB0.out⟩
  case round =>
    obtain ⟨hk, hb⟩ := hrel
    have HB := Lib.hid hb
    clear hb
    rcases hk with rfl | rfl | rfl | rfl | rfl
    · have hi := idx0
      go_wp2
      clear hi
      obtain ⟨w1, rfl⟩ : ∃ w1, w1 = wr := ⟨_, rfl⟩
      go_loopw [5] (fun j wr => (j = .int .i64 1 ∨ j = .int .i64 2) ∧ Below w.heap.size w wr) (fun j _ => 2 - (intOf j).toNat)
      case atStart => exact ⟨.inl rfl, HB.out⟩
      case round =>
        obtain ⟨hj, hb⟩ := hrel
        obtain ⟨w2, rfl⟩ : ∃ w2, w2 = wr := ⟨_, rfl⟩
        have c0 : w2.cell? ⟨g0, 0, none⟩ = some (.int .u64 1) := cell_of (heap_on hb H0.out) 0
        have c7 : w2.cell? ⟨g0, 7, none⟩ = some (.int .u64 2) := cell_of (heap_on hb H0.out) 7
        have HB2 := Lib.hid hb
        clear hb
        rcases hj with rfl | rfl
        · go_wp2
          go_quiet (fail)
          go_wp2
          go_roundw
          case rel => exact ⟨.inr rfl, below_drewN HB2.out _⟩
          case measure => simp [intOf]
        · go_wp2
          go_roundw
          case rel => exact ⟨.inr (.inl rfl), HB2.out⟩
          case measure => simp [intOf]
    · have hi := idx1
      go_wp2
      clear hi
      obtain ⟨w1, rfl⟩ : ∃ w1, w1 = wr := ⟨_, rfl⟩
      go_loopw [5] (fun j wr => (j = .int .i64 1 ∨ j = .int .i64 2) ∧ Below w.heap.size w wr) (fun j _ => 2 - (intOf j).toNat)
      case atStart => exact ⟨.inl rfl, HB.out⟩
      case round =>
        obtain ⟨hj, hb⟩ := hrel
        obtain ⟨w2, rfl⟩ : ∃ w2, w2 = wr := ⟨_, rfl⟩
        have c4 : w2.cell? ⟨g1, 4, none⟩ = some (.string ⟨#[97]⟩) := cell_of (heap_on hb H1.out) 4
        have c10 : w2.cell? ⟨g1, 10, none⟩ = some (.string ⟨#[101]⟩) := cell_of (heap_on hb H1.out) 10
        have hlt : (!Op.bytesLess (⟨#[97]⟩ : ByteArray).toList (⟨#[101]⟩ : ByteArray).toList) = false := by rw [ByteArray.toList_eq, ByteArray.toList_eq]; decide
        have HB2 := Lib.hid hb
        clear hb
        rcases hj with rfl | rfl
        · go_wp2
          go_quiet (fail)
          go_wp2
          go_roundw
          case rel => exact ⟨.inr rfl, below_drewN HB2.out _⟩
          case measure => simp [intOf]
        · go_wp2
          go_roundw
          case rel => exact ⟨.inr (.inr (.inl rfl)), HB2.out⟩
          case measure => simp [intOf]
    · have hi := idx2
      go_wp2
      clear hi
      obtain ⟨w1, rfl⟩ : ∃ w1, w1 = wr := ⟨_, rfl⟩
      go_loop [5] (fun j => j = .int .i64 1) (fun _ => 0)
      case atStart => rfl
      case round =>
        subst hrel
        go_wp2
        go_roundw
        case rel => exact ⟨.inr (.inr (.inr (.inl rfl))), HB.out⟩
        case measure => simp [intOf]
    · have hi := idx3
      go_wp2
      clear hi
      obtain ⟨w1, rfl⟩ : ∃ w1, w1 = wr := ⟨_, rfl⟩
      go_loop [5] (fun j => j = .int .i64 1) (fun _ => 0)
      case atStart => rfl
      case round =>
        subst hrel
        go_wp2
        go_roundw
        case rel => exact ⟨.inr (.inr (.inr (.inr rfl))), HB.out⟩
        case measure => simp [intOf]
    · go_wp2
      go_ret
      exact ⟨rfl, HB.out⟩
end Go.Proofs.Ythhdameaihclmaa
