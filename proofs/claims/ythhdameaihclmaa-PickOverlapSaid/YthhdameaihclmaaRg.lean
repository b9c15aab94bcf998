/- Height and Steps of the reference. Condition: at most 2^32 rows, heights of at most 12. -/
import Derived.Test.YthhdameaihclmaaRf
import Derived.Test.YthhdameaihclmaaSeek
namespace Go.Proofs.Ythhdameaihclmaa
open Go.RowKit Sk

def ints (l : List Nat) : List Int := l.map (fun (x : Nat) => (x : Int))
theorem foldl_max_take (l : List Nat) (k : Nat) (hk : k < l.length) : (l.take (k + 1)).foldl max 0 = max ((l.take k).foldl max 0) l[k] := by
  rw [List.take_succ_eq_append_getElem hk, List.foldl_append]; rfl
theorem ints_get (l : List Nat) (k : Nat) (hk : k < l.length) : (ints l)[k]? = some (l[k] : Int) := by simp [ints, hk]
theorem foldl_max_le (l : List Nat) (h : ∀ x ∈ l, x ≤ 12) : l.foldl max 0 ≤ 12 := by
  suffices ∀ a, a ≤ 12 → l.foldl max a ≤ 12 from this 0 (by omega)
  induction l with
  | nil => intro a ha; exact ha
  | cons x l ih =>
    intro a ha
    rw [List.foldl_cons]
    exact ih (fun y hy => h y (List.mem_cons_of_mem _ hy)) _ (by have := h x (by simp); omega)

set_option maxHeartbeats 1000000 in
theorem heightR_any (w : World) (R A : Option Addr) (n cr c : Nat) (l : List Nat) (h : Ints_ w A (ints l)) (hlen : l.length ≤ 4294967296) (h12 : ∀ x ∈ l, x ≤ 12) :
    Calls Try.prog 18 #[.agg #[.slice R n cr, .slice A l.length c]] w fun e w' => e = .returned (.int .i64 ((l.foldl max 0 : Nat) : Int)) ∧ Below w.heap.size w w' := by
  have hb0 : Below w.heap.size w (w.alloc (.cells #[.slice R n cr, .slice A l.length c] 37)) := (Below.refl _ _).alloc (Nat.le_refl _) _
  have HB := Lib.hid hb0
  have H12 := Lib.hid h12
  clear hb0 h12
  go_enter Try.func18, Try.ntmps18
  go_wp2
  go_loop [3, 4] (fun m i => ∃ k : Nat, k ≤ l.length ∧ i = .int .i64 k ∧ m = .int .i64 (((l.take k).foldl max 0 : Nat) : Int)) (fun _ i => l.length - (intOf i).toNat)
  case atStart => exact ⟨0, Nat.zero_le _, rfl, rfl⟩
  case round =>
    obtain ⟨k, hk, rfl, rfl⟩ := hrel
    by_cases hlt : k < l.length
    · have hq := ints_get l k hlt
      obtain ⟨g, o, rfl, h0⟩ := (h.below HB.out).at hq
      have HS := Lib.hid (foldl_max_take l k hlt)
      have hx := H12.out l[k] (List.getElem_mem _)
      have hm : (l.take k).foldl max 0 ≤ 12 := foldl_max_le _ fun x hx => H12.out x (List.mem_of_mem_take hx)
      obtain ⟨x, hxe⟩ : ∃ x, l[k] = x := ⟨_, rfl⟩
      obtain ⟨m, hme⟩ : ∃ m, (l.take k).foldl max 0 = m := ⟨_, rfl⟩
      have HX := Lib.hid hxe
      have HM := Lib.hid hme
      rw [hxe] at h0 hx
      rw [hme] at hm ⊢
      clear hq hxe hme
      by_cases hgt : m < x
      · go_wp2
        go_round
        case rel => exact ⟨k + 1, by omega, by go_num, by rw [HS.out, HM.out, HX.out]; congr 1; omega⟩
        case measure => simp [intOf]; omega
      · go_wp2
        go_round
        case rel => exact ⟨k + 1, by omega, by go_num, by rw [HS.out, HM.out, HX.out]; congr 1; omega⟩
        case measure => simp [intOf]; omega
    · go_wp2
      go_ret
      obtain rfl : k = l.length := by omega
      exact ⟨by simp, HB.out⟩

theorem fin_snoc (H : List Nat) {i p q : Nat} (h : p ≤ q) : fin H i p (q + 1) = (if i < H.getD q 0 then q + 1 else fin H i p q) ∧ cnt H i p (q + 1) = cnt H i p q + (if i < H.getD q 0 then 1 else 0) := by
  unfold fin cnt
  rw [lst_snoc H h]
  by_cases hc : i < H.getD q 0
  · rw [if_pos hc, if_pos hc, if_pos hc, List.getLast?_append, List.length_append]; exact ⟨rfl, rfl⟩
  · rw [if_neg hc, if_neg hc, if_neg hc, List.append_nil]; exact ⟨rfl, rfl⟩

set_option maxRecDepth 100000 in
set_option maxHeartbeats 1000000 in
theorem stepsR_any (w : World) (A R : Option Addr) (c cr : Nat) (l : List Nat) (rl : List Rw) (key : ByteArray) (seq : Int) (h : Ints_ w A (ints l)) (hR : Rows_ w R rl) (hll : l.length = rl.length) (hlen : l.length ≤ 4294967296) (h12 : ∀ x ∈ l, x ≤ 12) :
    Calls Try.prog 15 #[.agg #[.slice R rl.length cr, .slice A l.length c], .string key, .int .u64 seq] w fun e w' =>
      e = .returned (.int .i64 ((steps l (place rl key seq) 0 : Nat) : Int)) ∧ Below w.heap.size w w' := by
  have hb0 : Below w.heap.size w (w.alloc (.cells #[.slice R rl.length cr, .slice A l.length c] 37)) := (Below.refl _ _).alloc (Nat.le_refl _) _
  have hr0 := heap_alloc_new w (.cells #[.slice R rl.length cr, .slice A l.length c] 37)
  obtain ⟨e, he⟩ : ∃ e, place rl key seq = e := ⟨_, rfl⟩
  have hel : e ≤ l.length := by have := place_le rl key seq; omega
  have hc := place_any _ R cr rl key seq (hR.below hb0) (by omega)
  rw [he] at hc ⊢
  have HB := Lib.hid hb0
  have HR0 := Lib.hid hr0
  have HC := Lib.hid hc
  have H12 := Lib.hid h12
  have HLL := Lib.hid hll
  have HT := Lib.hid (pos_top l e h12)
  clear hb0 hc he h12 hll hr0
  go_enter Try.func15, Try.ntmps15
  go_wp2_with (go_at_call 8; refine HC.out.mono ?_; rintro e1 w1 ⟨rfl, hb1⟩)
  have hbw : Below w.heap.size w w1 := below_step HB.out hb1 (Nat.le_refl _)
  have HRw := Lib.hid (heap_on hb1 HR0.out)
  go_loop [8, 9, 10, 11] (fun at_ st h i => ∃ k : Nat, k ≤ 12 ∧ h = .int .i64 k ∧ at_ = .int .i64 (pos l k e : Nat) ∧ st = .int .i64 (steps l e k : Nat)) (fun _ _ h _ => (intOf h).toNat)
  case atStart => exact ⟨12, Nat.le_refl _, rfl, by rw [HT.out]; rfl, rfl⟩
  case round =>
    obtain ⟨k, hk, rfl, rfl, rfl⟩ := hrel
    cases k with
    | zero =>
      go_wp2
      go_ret
      exact ⟨rfl, hbw⟩
    | succ j =>
      have hj : j < 12 := by omega
      have HS := Lib.hid (steps_down l e j hj)
      have HP := Lib.hid (pos_down l j e)
      have hpl := pos_le l (j + 1) e
      have hsl := steps_le l e (j + 1)
      have hsl2 : (12 - (j + 1)) * e ≤ 12 * e := Nat.mul_le_mul_right _ (by omega)
      obtain ⟨p, hp⟩ : ∃ p, pos l (j + 1) e = p := ⟨_, rfl⟩
      obtain ⟨s0, hs0⟩ : ∃ s0, steps l e (j + 1) = s0 := ⟨_, rfl⟩
      rw [hp] at hpl
      rw [hs0] at hsl
      rw [hp, hs0]
      have HPE := Lib.hid hp
      have HSE := Lib.hid hs0
      clear hp hs0
      go_wp2
      go_loop [8, 9, 11] (fun at_ st i => ∃ q x : Nat, p ≤ q ∧ q ≤ e ∧ i = .int .i64 q ∧ at_ = .int .i64 (fin l j p q : Nat) ∧ st = .int .i64 ((s0 + x : Nat) : Int) ∧ x = cnt l j p q) (fun _ _ i => e - (intOf i).toNat)
      case atStart => exact ⟨p, 0, Nat.le_refl _, hpl, rfl, by rw [fin_nil (lst_nil l j p p (Nat.le_refl _))], rfl, by rw [cnt_nil (lst_nil l j p p (Nat.le_refl _))]⟩
      case round =>
        obtain ⟨q, x, hpq, hqe, rfl, rfl, rfl, hx⟩ := hrel
        have hcl := cnt_le l j p q
        rw [← hx] at hcl
        have HX := Lib.hid hx
        clear hx
        by_cases hlt : q < e
        · have hq := ints_get l q (by omega)
          have HG := Lib.hid (show l.getD q 0 = l[q]'(by omega) from by simp [show q < l.length by omega])
          obtain ⟨g, o, rfl, h0⟩ := (h.below hbw).at hq
          have f1 : w1.cell? ⟨w.heap.size, 1, none⟩ = some (.slice (some ⟨g, o, none⟩) l.length c) := cell_of HRw.out 1
          have hx12 := H12.out (l[q]'(by omega)) (List.getElem_mem _)
          obtain ⟨y, hye⟩ : ∃ y, l[q]'(by omega) = y := ⟨_, rfl⟩
          have HY := Lib.hid hye
          rw [hye] at h0 hx12
          clear hq hye
          obtain ⟨fs1, fs2⟩ := fin_snoc l (i := j) hpq
          have HF1 := Lib.hid fs1
          have HF2 := Lib.hid fs2
          clear fs1 fs2
          by_cases hge : j + 1 ≤ y
          · go_wp2
            go_round
            case rel =>
              refine ⟨q + 1, x + 1, by omega, by omega, by go_num, ?_, by go_num, ?_⟩
              · rw [HF1.out, HG.out, HY.out, if_pos (by omega)]; go_num
              · rw [HF2.out, HG.out, HY.out, if_pos (by omega), HX.out]
            case measure => simp [intOf]; omega
          · go_wp2
            go_round
            case rel =>
              refine ⟨q + 1, x, by omega, by omega, by go_num, ?_, rfl, ?_⟩
              · rw [HF1.out, HG.out, HY.out, if_neg (by omega)]
              · rw [HF2.out, HG.out, HY.out, if_neg (by omega), HX.out]; rfl
            case measure => simp [intOf]; omega
        · obtain rfl : q = e := by omega
          go_wp2
          go_round
          case rel =>
            refine ⟨j, by omega, by go_num, ?_, ?_⟩
            · rw [← HP.out, HPE.out]
            · rw [HS.out, HSE.out, HPE.out, HX.out]; congr 1; omega
          case measure => simp [intOf]
end Go.Proofs.Ythhdameaihclmaa
