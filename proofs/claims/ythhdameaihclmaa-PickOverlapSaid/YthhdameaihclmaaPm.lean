/- Bottom of package pick at the sample version; the function awake of layer 16's statements returns true. Conditions: none. -/
import Derived.Test.YthhdameaihclmaaPk
namespace Go.Proofs.Ythhdameaihclmaa
open Go.RowKit Sk

set_option maxRecDepth 100000 in
set_option maxHeartbeats 4000000 in
theorem asked_any (w : World) (g0 g1 : Nat) (A B : Option Addr) (ci co : Nat) (h0 : w.heap[g0]? = some (.cells cs0 69 (0, 0))) (h1 : w.heap[g1]? = some (.cells cs1 69 (0, 0))) :
    Calls Try.prog 53 #[.agg (verS g0 g1), .agg #[.int .i64 0, .slice A 2 ci, .slice B 1 co]] w (Yes w) := by
  have HB := Lib.hid (((Below.refl w.heap.size w).alloc (Nat.le_refl _) (.cells (verS g0 g1) 91)).alloc (by simp) (.cells #[.int .i64 0, .slice A 2 ci, .slice B 1 co] 94))
  have HC := Lib.hid (heap_alloc2_new w (.cells (verS g0 g1) 91) (.cells #[.int .i64 0, .slice A 2 ci, .slice B 1 co] 94))
  have HR := Lib.hid (rightS_any _ g0 g1 (heap_on HB.out h0) (heap_on HB.out h1))
  clear h0 h1
  unfold Yes verS at *
  go_enter Try.func53, Try.ntmps53
  go_wp2_with (go_at_call 47; refine HR.out.mono ?_; rintro e1 w1 ⟨rfl, hb1⟩; have q0 : w1.cell? ⟨w.heap.size + 1, 0, none⟩ = some (.int .i64 0) := cell_of (heap_on hb1 HC.out) 0)
  go_ret
  exact ⟨rfl, below_step HB.out hb1 (Nat.le_refl _)⟩

set_option maxRecDepth 100000 in
set_option maxHeartbeats 4000000 in
theorem bottom_any (w : World) (g0 g1 gi ci go co : Nat) (h0 : w.heap[g0]? = some (.cells cs0 69 (0, 0))) (h1 : w.heap[g1]? = some (.cells cs1 69 (0, 0))) (hi : AtC w gi 14 cs0) (ho : AtC w go 7 cs1) :
    Calls Try.prog 44 #[.agg (verS g0 g1), .agg #[.int .i64 0, .slice (some ⟨gi, 0, none⟩) 2 ci, .slice (some ⟨go, 0, none⟩) 1 co]] w fun e w' => e = .returned (.tuple #[.bool true, .int .i64 0]) ∧ Below w.heap.size w w' := by
  have HB := Lib.hid (((Below.refl w.heap.size w).alloc (Nat.le_refl _) (.cells (verS g0 g1) 91)).alloc (by simp) (.cells #[.int .i64 0, .slice (some ⟨gi, 0, none⟩) 2 ci, .slice (some ⟨go, 0, none⟩) 1 co] 94))
  have HV := Lib.hid (heap_alloc2_old w (.cells (verS g0 g1) 91) (.cells #[.int .i64 0, .slice (some ⟨gi, 0, none⟩) 2 ci, .slice (some ⟨go, 0, none⟩) 1 co] 94))
  have HC := Lib.hid (heap_alloc2_new w (.cells (verS g0 g1) 91) (.cells #[.int .i64 0, .slice (some ⟨gi, 0, none⟩) 2 ci, .slice (some ⟨go, 0, none⟩) 1 co] 94))
  have HA := Lib.hid (asked_any _ g0 g1 (some ⟨gi, 0, none⟩) (some ⟨go, 0, none⟩) ci co (heap_on HB.out h0) (heap_on HB.out h1))
  have HI := Lib.hid (hi.on HB.out)
  have HO := Lib.hid (ho.on HB.out)
  clear h0 h1 hi ho
  unfold Yes verS at *
  go_enter Try.func44, Try.ntmps44
  go_upto_region 3 with (go_at_call 53; refine HA.out.mono ?_; rintro e1 w1 ⟨rfl, hb1⟩)
  have HB1 := Lib.hid (below_step HB.out hb1 (Nat.le_refl _))
  have HV1 := Lib.hid (heap_on hb1 HV.out)
  have HC1 := Lib.hid (heap_on hb1 HC.out)
  have hbL : Below w1.heap.size w1 (w1.alloc (.cells #[.slice (some ⟨gi, 0, none⟩) 2 ci, .slice (some ⟨go, 0, none⟩) 1 co] 88)) := (Below.refl _ _).alloc (Nat.le_refl _) _
  have HSP := Lib.hid (span2_any (w1.alloc (.cells #[.slice (some ⟨gi, 0, none⟩) 2 ci, .slice (some ⟨go, 0, none⟩) 1 co] 88)) w1.heap.size gi ci go co (heap_alloc_new _ _) ((HI.out.on hb1).on hbL) ((HO.out.on hb1).on hbL))
  simp only [spC] at HSP
  have HBL := Lib.hid hbL
  have q1 : w1.cell? ⟨w.heap.size + 1, 1, none⟩ = some (.slice (some ⟨gi, 0, none⟩) 2 ci) := cell_of HC1.out 1
  have q2 : w1.cell? ⟨w.heap.size + 1, 2, none⟩ = some (.slice (some ⟨go, 0, none⟩) 1 co) := cell_of HC1.out 2
  clear hb1 hbL
  go_upto_region 4 with (go_at_call 50; refine HSP.out.mono ?_; rintro e7 w7 ⟨rfl, hb7⟩)
  have hb8 := below_step HBL.out (below_step (Below.refl _ _) hb7 (Nat.le_refl _)) (Nat.le_refl _)
  have hb9 := hb8.alloc hb8.size (.cells #[.int .u64 0, .int .i64 0, .int .i64 0, .string ⟨#[97]⟩, .string ⟨#[100]⟩, .int .u64 0, .int .u64 0] 69)
  have HB9 := Lib.hid (below_step HB1.out hb9 (Nat.le_refl _))
  have HV9 := Lib.hid (heap_on hb9 HV1.out)
  have HC9 := Lib.hid (heap_on hb9 HC1.out)
  clear hb7 hb8 hb9 q1 q2
  generalize w7.alloc (.cells #[.int .u64 0, .int .i64 0, .int .i64 0, .string ⟨#[97]⟩, .string ⟨#[100]⟩, .int .u64 0, .int .u64 0] 69) = W8 at *
  have q0 : W8.cell? ⟨w.heap.size + 1, 0, none⟩ = some (.int .i64 0) := cell_of HC9.out 0
  have v5 : W8.cell? ⟨w.heap.size, 5, none⟩ = some (.slice none 0 0) := cell_of HV9.out 5
  have v6 : W8.cell? ⟨w.heap.size, 6, none⟩ = some (.slice none 0 0) := cell_of HV9.out 6
  have HCN := Lib.hid (fun f => chosen_none W8 f)
  go_wp2
  go_loop [29] (fun i => i = .int .i64 0 ∨ i = .int .i64 1 ∨ i = .int .i64 2) (fun i => 2 - (intOf i).toNat)
  case atStart => exact .inl rfl
  case round =>
    rcases hrel with rfl | rfl | rfl
    · go_wp2_with (go_at_call 51; refine (HCN.out _).mono ?_; rintro e10 w10 ⟨rfl, rfl⟩)
      go_round
      case rel => exact .inr (.inl rfl)
      case measure => simp [intOf]
    · go_wp2_with (go_at_call 51; refine (HCN.out _).mono ?_; rintro e10 w10 ⟨rfl, rfl⟩)
      go_round
      case rel => exact .inr (.inr rfl)
      case measure => simp [intOf]
    · go_wp2
      go_ret2
      exact ⟨rfl, HB9.out⟩

set_option maxRecDepth 100000 in
set_option maxHeartbeats 4000000 in
theorem awake16_any (w : World) : Calls Try.prog 29 #[] w (Yes w) := by
  have HSA := Lib.hid (sample_any w)
  unfold Yes
  go_enter Try.func29, Try.ntmps29
  go_wp2_with fail
  refine HSA.out.mono ?_
  rintro e1 w1 ⟨g0, g1, rfl, h0, h1, hb1⟩
  have HB1 := Lib.hid hb1
  have H0 := Lib.hid h0
  have H1 := Lib.hid h1
  clear h0 h1 hb1
  unfold verS
  go_upto_region 2 with fail
  have hb2 : Below w1.heap.size w1 (w1.alloc (.cells #[.int .u64 1, .int .u64 5, .int .u64 9, .slice (some ⟨g0, 0, none⟩) 2 2, .slice (some ⟨g1, 0, none⟩) 2 2, .slice none 0 0, .slice none 0 0] 91)) := (Below.refl _ _).alloc (Nat.le_refl _) _
  have HB2 := Lib.hid (below_step HB1.out hb2 (Nat.le_refl _))
  have HV2 := Lib.hid (heap_alloc_new w1 (.cells #[.int .u64 1, .int .u64 5, .int .u64 9, .slice (some ⟨g0, 0, none⟩) 2 2, .slice (some ⟨g1, 0, none⟩) 2 2, .slice none 0 0, .slice none 0 0] 91))
  have HPS := Lib.hid (pickS_any (w1.alloc (.cells #[.int .u64 1, .int .u64 5, .int .u64 9, .slice (some ⟨g0, 0, none⟩) 2 2, .slice (some ⟨g1, 0, none⟩) 2 2, .slice none 0 0, .slice none 0 0] 91)) g0 g1 (heap_on hb2 H0.out) (heap_on hb2 H1.out))
  have H02 := Lib.hid (heap_on hb2 H0.out)
  have H12 := Lib.hid (heap_on hb2 H1.out)
  unfold verS coC at HPS
  clear hb2
  generalize w1.alloc (.cells #[.int .u64 1, .int .u64 5, .int .u64 9, .slice (some ⟨g0, 0, none⟩) 2 2, .slice (some ⟨g1, 0, none⟩) 2 2, .slice none 0 0, .slice none 0 0] 91) = W2 at *
  have a0 : W2.cell? ⟨w1.heap.size, 0, none⟩ = some (Value.int .u64 1) := cell_of HV2.out 0
  have a1 : W2.cell? ⟨w1.heap.size, 1, none⟩ = some (Value.int .u64 5) := cell_of HV2.out 1
  have a2 : W2.cell? ⟨w1.heap.size, 2, none⟩ = some (Value.int .u64 9) := cell_of HV2.out 2
  have a3 : W2.cell? ⟨w1.heap.size, 3, none⟩ = some (Value.slice (some ⟨g0, 0, none⟩) 2 2) := cell_of HV2.out 3
  have a4 : W2.cell? ⟨w1.heap.size, 4, none⟩ = some (Value.slice (some ⟨g1, 0, none⟩) 2 2) := cell_of HV2.out 4
  have a5 : W2.cell? ⟨w1.heap.size, 5, none⟩ = some (Value.slice none 0 0) := cell_of HV2.out 5
  have a6 : W2.cell? ⟨w1.heap.size, 6, none⟩ = some (Value.slice none 0 0) := cell_of HV2.out 6
  go_upto_region 3 with (go_at_call 43; refine HPS.out.mono ?_; rintro e3 w3 ⟨gi, ci, go, co, rfl, hi3, ho3, hb3⟩; have HI3 := Lib.hid hi3; have HO3 := Lib.hid ho3; have HV3 := Lib.hid (heap_on hb3 HV2.out); have H03 := Lib.hid (heap_on hb3 H02.out); have H13 := Lib.hid (heap_on hb3 H12.out); have HB3 := Lib.hid (below_step HB2.out hb3 (Nat.le_refl _)); clear hi3 ho3 hb3)
  have hb4 : Below w3.heap.size w3 (w3.alloc (.cells #[.int .i64 0, .slice (some ⟨gi, 0, none⟩) 2 ci, .slice (some ⟨go, 0, none⟩) 1 co] 94)) := (Below.refl _ _).alloc (Nat.le_refl _) _
  have HB4 := Lib.hid (below_step HB3.out hb4 (Nat.le_refl _))
  have HC4 := Lib.hid (heap_alloc_new w3 (.cells #[.int .i64 0, .slice (some ⟨gi, 0, none⟩) 2 ci, .slice (some ⟨go, 0, none⟩) 1 co] 94))
  have HV4 := Lib.hid (heap_on hb4 HV3.out)
  have HO4 := Lib.hid (HO3.out.on hb4)
  have HBO := Lib.hid (bottom_any (w3.alloc (.cells #[.int .i64 0, .slice (some ⟨gi, 0, none⟩) 2 ci, .slice (some ⟨go, 0, none⟩) 1 co] 94)) g0 g1 gi ci go co (heap_on hb4 H03.out) (heap_on hb4 H13.out) (HI3.out.on hb4) HO4.out)
  unfold verS at HBO
  clear a0 a1 a2 a3 a4 a5 a6 hb4
  generalize w3.alloc (.cells #[.int .i64 0, .slice (some ⟨gi, 0, none⟩) 2 ci, .slice (some ⟨go, 0, none⟩) 1 co] 94) = W4 at *
  have b0 : W4.cell? ⟨w1.heap.size, 0, none⟩ = some (Value.int .u64 1) := cell_of HV4.out 0
  have b1 : W4.cell? ⟨w1.heap.size, 1, none⟩ = some (Value.int .u64 5) := cell_of HV4.out 1
  have b2 : W4.cell? ⟨w1.heap.size, 2, none⟩ = some (Value.int .u64 9) := cell_of HV4.out 2
  have b3 : W4.cell? ⟨w1.heap.size, 3, none⟩ = some (Value.slice (some ⟨g0, 0, none⟩) 2 2) := cell_of HV4.out 3
  have b4 : W4.cell? ⟨w1.heap.size, 4, none⟩ = some (Value.slice (some ⟨g1, 0, none⟩) 2 2) := cell_of HV4.out 4
  have b5 : W4.cell? ⟨w1.heap.size, 5, none⟩ = some (Value.slice none 0 0) := cell_of HV4.out 5
  have b6 : W4.cell? ⟨w1.heap.size, 6, none⟩ = some (Value.slice none 0 0) := cell_of HV4.out 6
  have d0 : W4.cell? ⟨w3.heap.size, 0, none⟩ = some (.int .i64 0) := cell_of HC4.out 0
  have d1 : W4.cell? ⟨w3.heap.size, 1, none⟩ = some (.slice (some ⟨gi, 0, none⟩) 2 ci) := cell_of HC4.out 1
  have d2 : W4.cell? ⟨w3.heap.size, 2, none⟩ = some (.slice (some ⟨go, 0, none⟩) 1 co) := cell_of HC4.out 2
  have HPE := Lib.hid (fun W => pickE_any W)
  unfold verE coC at HPE
  go_upto_region 5 with (first
    | (go_at_call 44; refine HBO.out.mono ?_; rintro e5 w5 ⟨rfl, hb5⟩; have HB5 := Lib.hid hb5; clear hb5 b0 b1 b2 b3 b4 b5 b6 d0 d1 d2)
    | (go_at_call 43; refine (HPE.out _).mono ?_; rintro e6 w6 ⟨rfl, hb6⟩; have HB6 := Lib.hid hb6; clear hb6))
  have hb7 := below_step (below_step HB5.out HB6.out (Nat.le_refl _)) ((Below.refl w6.heap.size w6).alloc (Nat.le_refl _) (.cells #[.int .i64 0, .slice none 0 0, .slice none 0 0] 94)) (Nat.le_refl _)
  have d0 := cell_on hb7 (cell_of HC4.out 0)
  have d1 := cell_on hb7 (cell_of HC4.out 1)
  have d2 := cell_on hb7 (cell_of HC4.out 2)
  have z0 := cell_on hb7 (HO4.out 0 (.int .u64 3) (by omega) rfl)
  have HB7 := Lib.hid (below_step HB4.out hb7 (Nat.le_refl _))
  clear hb7
  go_wp2
  go_ret
  exact ⟨rfl, HB7.out⟩
end Go.Proofs.Ythhdameaihclmaa
