/- Next of the document's answers, Check of package batch, New and none of package mem, where a batch may be. Condition: that the batch may be. -/
import Derived.Test.YthhdameaihclmaaMc
namespace Go.Proofs.Ythhdameaihclmaa
open Go.RowKit Sk

set_option maxRecDepth 100000 in
set_option maxHeartbeats 1000000 in
theorem next_any (w : World) (A : Option Addr) (c : Nat) (s : Int) (l : List Wr) (h : Wrs w A l) (hok : okB s l = true) :
    Calls Try.prog 22 #[.agg #[.int .u64 s, .slice A l.length c]] w fun e w' => e = .returned (.int .u64 (s + (l.length : Int))) ∧ Below w.heap.size w w' := by
  obtain ⟨-, h1, h2, -, h64, -⟩ := (okB_iff s l).1 hok
  have hwr : IntKind.u64.wrap (l.length : Int) = (l.length : Int) := by simp [IntKind.wrap, IntKind.bits, IntKind.signed]; omega
  have hwr2 : IntKind.u64.wrap (s + (l.length : Int)) = s + (l.length : Int) := by simp [IntKind.wrap, IntKind.bits, IntKind.signed]; omega
  have HO := Lib.hid (heap_alloc_new w (.cells #[.int .u64 s, .slice A l.length c] 59))
  have HB0 := Lib.hid ((Below.refl w.heap.size w).alloc (Nat.le_refl _) (.cells #[.int .u64 s, .slice A l.length c] 59))
  have HOK := Lib.hid hok
  have HR := Lib.hid (fun W (hW : Below w.heap.size w W) => refCheck_any W A c s l (h.below hW) (by omega))
  clear hok
  go_enter Try.func22, Try.ntmps22
  go_wp2_with (go_at_call 21; refine (HR.out _ HB0.out).mono ?_; rintro e1 w1 ⟨⟨v, rfl, hv⟩, hb1⟩; obtain rfl : v = 0 := hv.2 HOK.out; clear hv; have c0 : w1.cell? ⟨w.heap.size, 0, none⟩ = some (.int .u64 s) := cell_of (heap_on hb1 HO.out) 0; have c1 : w1.cell? ⟨w.heap.size, 1, none⟩ = some (.slice A l.length c) := cell_of (heap_on hb1 HO.out) 1)
  go_ret
  exact ⟨by first | rfl | (simp; omega), below_step HB0.out hb1 (Nat.le_refl _)⟩

theorem none_any (w : World) (B : Nat) (room least greatest : Value) (ns : List Nd) (h : SL w B 85 #[.bool true, room, least, greatest] ns) :
    Calls Try.prog 38 #[.pointer (some ⟨B, 0, none⟩)] w fun e w' => e = .returned (.bool false) ∧ w' = w := by
  have hm : w.cell? ⟨B, 18, none⟩ = some (.bool true) := by
    rw [cell_of h.head]
    simp [headC, nodeC]
  go_enter Try.func38, Try.ntmps38
  go_wp2
  go_ret
  exact ⟨rfl, rfl⟩

theorem new_any (w : World) :
    Calls Try.prog 23 #[] w fun e w' => e = .returned (.pointer (some ⟨w.heap.size, 0, none⟩)) ∧ SL w' w.heap.size 85 #[.bool true, .int .i64 0, .int .u64 0, .int .u64 0] [] ∧ Below w.heap.size w w' ∧ w'.heap.size = w.heap.size + 1 := by
  go_enter Try.func23, Try.ntmps23
  go_wp2
  go_ret
  refine ⟨rfl, ⟨?_, fun q n hq => (by simp at hq), List.Pairwise.nil, fun n hn => (by cases hn), fun n hn => (by cases hn), (by simp)⟩, (Below.refl _ _).alloc (Nat.le_refl _) _, by simp⟩
  exact heap_alloc_new w _
set_option maxRecDepth 100000 in
set_option maxHeartbeats 4000000 in
theorem ckB_any (w : World) (A : Option Addr) (c : Nat) (s : Int) (l : List Wr) (h : Wrs w A l) (hok : okB s l = true) :
    Calls Try.prog 39 #[.agg #[.int .u64 s, .slice A l.length c]] w fun e w' => e = .returned (.int .i64 0) ∧ Below w.heap.size w w' := by
  obtain ⟨hne, h1, h2, hbad, h64, hlong⟩ := (okB_iff s l).1 hok
  have hl0 : l.length ≠ 0 := fun e => hne (List.eq_nil_of_length_eq_zero e)
  have hln : ((l.length : Int) == 0) = false := beq_eq_false_iff_ne.2 (by omega)
  have HO := Lib.hid (heap_alloc_new w (.cells #[.int .u64 s, .slice A l.length c] 59))
  have HB0 := Lib.hid ((Below.refl w.heap.size w).alloc (Nat.le_refl _) (.cells #[.int .u64 s, .slice A l.length c] 59))
  have HBAD := Lib.hid hbad
  have HLONG := Lib.hid hlong
  clear hok hne hbad hlong
  go_enter Try.func39, Try.ntmps39
  go_wp2
  go_loopw [3, 27] (fun u v wr => ∃ k : Nat, k ≤ l.length ∧ v = .int .i64 k ∧ u = .int .i64 0 ∧ Below w.heap.size w wr) (fun _ v _ => l.length - (intOf v).toNat)
  case atStart => exact ⟨0, Nat.zero_le _, rfl, rfl, HB0.out⟩
  case round =>
    obtain ⟨k, hk, rfl, rfl, hb⟩ := hrel
    by_cases hlt : k < l.length
    · have hq : l[k]? = some l[k] := List.getElem?_eq_getElem hlt
      have hmem : l[k] ∈ l := List.getElem_mem _
      obtain ⟨g, o, rfl, x0, x1, x2⟩ := h.at hq
      obtain ⟨x, hx⟩ : ∃ x, l[k] = x := ⟨_, rfl⟩
      rw [hx] at x0 x1 x2 hmem
      have x0 := cell_on hb x0
      have x1 := cell_on hb x1
      have x2 := cell_on hb x2
      have hg := HBAD.out x hmem
      have hl := HLONG.out x hmem
      clear hq hx hmem
      go_upto_region 9 with (refine wpList_store_new rfl 80 _ _ rfl 80 wrZ (wrC x) rfl rfl rfl Try.size80 (wrC_one x) ?_; intro W0 hb0 hO0)
      have y0 : W0.cell? ⟨wr.heap.size, 0, none⟩ = some (.int .i64 x.kind) := cell_of hO0 0
      have y1 : W0.cell? ⟨wr.heap.size, 1, none⟩ = some (.string x.key) := cell_of hO0 1
      have y2 : W0.cell? ⟨wr.heap.size, 2, none⟩ = some (.string x.val) := cell_of hO0 2
      have hb2 := below_step hb hb0 (Nat.le_refl _)
      clear x0 x1 x2 hO0
      obtain ⟨kd, ky, vl⟩ := x
      simp only at y0 y1 y2
      simp only [badW, longW, Bool.or_eq_false_iff, Bool.and_eq_false_iff, decide_eq_false_iff_not, Decidable.not_not, beq_eq_false_iff_ne, ne_eq] at hg hl
      obtain ⟨⟨g1, g2⟩, g3⟩ := hg
      obtain ⟨l1, l2⟩ := hl
      have e1 : decide ((520 : Int) < (ky.size : Int)) = false := decide_eq_false (by omega)
      have e2 : decide ((2048 : Int) < (vl.size : Int)) = false := decide_eq_false (by omega)
      have e3 : (ky.toList == ([] : List UInt8)) = false := by
        rw [ByteArray.toList_eq]; refine beq_eq_false_iff_ne.2 fun h => g2 ?_
        have := congrArg List.length h
        simpa using this
      clear l1 l2 g2
      by_cases k1 : kd = 1
      · subst k1
        clear g1 g3
        go_wp2
        go_roundw
        case rel => exact ⟨k + 1, by omega, by go_num, rfl, hb2⟩
        case measure => simp [intOf]; omega
      · have k2 : kd = 2 := by rcases g1 with g1 | g1; exact absurd g1 k1; exact g1
        subst k2
        have g4 : vl.size = 0 := by rcases g3 with g3 | g3; exact absurd rfl g3; omega
        have e4 : (vl.toList == ([] : List UInt8)) = true := by
          rw [ByteArray.toList_eq]; refine beq_iff_eq.2 (List.eq_nil_of_length_eq_zero ?_)
          simpa using g4
        clear g1 g3 g4 k1
        go_wp2
        go_roundw
        case rel => exact ⟨k + 1, by omega, by go_num, rfl, hb2⟩
        case measure => simp [intOf]; omega
    · obtain rfl : k = l.length := by omega
      go_wp2
      go_ret
      exact ⟨rfl, hb⟩
end Go.Proofs.Ythhdameaihclmaa
