/- Get of package mem: what a key has at a number. Condition: at most 2^32 rows. -/
import Derived.Test.YthhdameaihclmaaMn
import Derived.Test.YthhdameaihclmaaSeek
namespace Go.Proofs.Ythhdameaihclmaa
open Go.RowKit Sk

set_option maxRecDepth 100000 in
set_option maxHeartbeats 2000000 in
theorem get_any (w : World) (B : Nat) (room least greatest : Value) (ns : List Nd) (key : ByteArray) (n : Int) (h : SL w B 85 #[.bool true, room, least, greatest] ns) (hlen : ns.length ≤ 4294967296) :
    Calls Try.prog 25 #[.pointer (some ⟨B, 0, none⟩), .string key, .int .u64 n] w fun e w' => e = .returned (seekV (getR (rs ns) key n)) ∧ Below w.heap.size w w' := by
  have HB0 := Lib.hid ((Below.refl w.heap.size w).alloc (Nat.le_refl _) (.cells zeroRow 27))
  have HO := Lib.hid (heap_alloc_new w (.cells zeroRow 27))
  have HN := Lib.hid (fun W (hW : Below w.heap.size w W) => none_any W B room least greatest ns (h.below hW))
  have HS := Lib.hid (fun W (hW : Below w.heap.size w W) => seek_any W B 85 _ ns key n (h.below hW) hlen)
  unfold getR
  cases hL : (rs ns)[place (rs ns) key n]? with
  | none =>
    rw [hL] at HS
    simp only [seekV, zeroRow] at HS ⊢
    clear hL
    go_enter Try.func25, Try.ntmps25
    go_upto_region 4 with (first
      | (go_at_call 38; refine (HN.out _ HB0.out).mono ?_; rintro e1 w1 ⟨rfl, rfl⟩)
      | (go_at_call 11; refine (HS.out _ HB0.out).mono ?_; rintro e2 w2 ⟨rfl, hb2⟩; have HB2 := Lib.hid (below_step HB0.out hb2 (Nat.le_refl _)); have H2 := Lib.hid (heap_on hb2 HO.out))
      | (refine wpList_store_over rfl 27 _ _ rfl w.heap.size 27 zeroRow zeroRow H2.out rfl rfl rfl Try.size27 zeroRow_one ?_; intro W3 hO3 hG3))
    have HG3 := Lib.hid hG3
    clear hG3
    go_wp2_with (refine wpList_store_over rfl 27 _ _ rfl w.heap.size 27 zeroRow zeroRow HG3.out rfl rfl rfl Try.size27 zeroRow_one ?_; intro W4 hO4 hG4)
    exact bodyPost_ret (results_cell_tmp rfl _ _ w.heap.size 27 zeroRow (0, 0) _ rfl hG4 Try.underlying27 rfl Try.size27) rfl ⟨rfl, hO4.below (Nat.le_refl _) (hO3.below (Nat.le_refl _) HB2.out)⟩
  | some r =>
    rw [hL] at HS
    simp only [seekV, rowC] at HS ⊢
    clear hL
    by_cases hk : r.key = key
    · have hkb : (r.key.toList == key.toList) = true := by rw [hk]; exact beq_self_eq_true _
      rw [if_pos hk]
      have HK := Lib.hid hk
      clear hk
      go_enter Try.func25, Try.ntmps25
      go_upto_region 4 with (first
        | (go_at_call 38; refine (HN.out _ HB0.out).mono ?_; rintro e1 w1 ⟨rfl, rfl⟩)
        | (go_at_call 11; refine (HS.out _ HB0.out).mono ?_; rintro e2 w2 ⟨rfl, hb2⟩; have HB2 := Lib.hid (below_step HB0.out hb2 (Nat.le_refl _)); have H2 := Lib.hid (heap_on hb2 HO.out))
        | (refine wpList_store_over rfl 27 _ _ rfl w.heap.size 27 zeroRow (rowC r) H2.out rfl rfl rfl Try.size27 (rowC_one _) ?_; intro W3 hO3 hG3))
      have y0 : W3.cell? ⟨w.heap.size, 0, none⟩ = some (.string r.key) := cell_of hG3 0
      have y1 : W3.cell? ⟨w.heap.size, 1, none⟩ = some (.int .u64 r.seq) := cell_of hG3 1
      have y2 : W3.cell? ⟨w.heap.size, 2, none⟩ = some (.int .i64 r.kind) := cell_of hG3 2
      have y3 : W3.cell? ⟨w.heap.size, 3, none⟩ = some (.string r.val) := cell_of hG3 3
      have HG3 := Lib.hid hG3
      clear hG3
      go_wp2_with (refine wpList_store_over rfl 27 _ _ rfl w.heap.size 27 (rowC r) (rowC r) HG3.out rfl rfl rfl Try.size27 (rowC_one _) ?_; intro W4 hO4 hG4)
      exact bodyPost_ret (results_cell_tmp rfl _ _ w.heap.size 27 (rowC r) (0, 0) _ rfl hG4 Try.underlying27 rfl Try.size27) rfl ⟨rfl, hO4.below (Nat.le_refl _) (hO3.below (Nat.le_refl _) HB2.out)⟩
    · have hkb : (r.key.toList == key.toList) = false := beq_eq_false_iff_ne.2 fun e => hk (toList_inj e)
      rw [if_neg hk]
      have HK := Lib.hid hk
      clear hk
      go_enter Try.func25, Try.ntmps25
      go_upto_region 4 with (first
        | (go_at_call 38; refine (HN.out _ HB0.out).mono ?_; rintro e1 w1 ⟨rfl, rfl⟩)
        | (go_at_call 11; refine (HS.out _ HB0.out).mono ?_; rintro e2 w2 ⟨rfl, hb2⟩; have HB2 := Lib.hid (below_step HB0.out hb2 (Nat.le_refl _)); have H2 := Lib.hid (heap_on hb2 HO.out))
        | (refine wpList_store_over rfl 27 _ _ rfl w.heap.size 27 zeroRow (rowC r) H2.out rfl rfl rfl Try.size27 (rowC_one _) ?_; intro W3 hO3 hG3))
      have y0 : W3.cell? ⟨w.heap.size, 0, none⟩ = some (.string r.key) := cell_of hG3 0
      have HG3 := Lib.hid hG3
      clear hG3
      go_wp2_with (refine wpList_store_over rfl 27 _ _ rfl w.heap.size 27 (rowC r) zeroRow HG3.out rfl rfl rfl Try.size27 zeroRow_one ?_; intro W4 hO4 hG4)
      exact bodyPost_ret (results_cell_tmp rfl _ _ w.heap.size 27 zeroRow (0, 0) _ rfl hG4 Try.underlying27 rfl Try.size27) rfl ⟨rfl, hO4.below (Nat.le_refl _) (hO3.below (Nat.le_refl _) HB2.out)⟩
end Go.Proofs.Ythhdameaihclmaa
