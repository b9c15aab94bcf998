/- Rows of package batch: a row for each write, in memory of their own. Condition: that the batch may be. -/
import Derived.Test.YthhdameaihclmaaMn
import Derived.Test.YthhdameaihclmaaPs
namespace Go.Proofs.Ythhdameaihclmaa
open Go.RowKit Sk

theorem own_below {w w' : World} {n₀ e sz n : Nat} {v : Value} {xs : List Value} (h : w.ownsRow n₀ e sz v n xs) (hb : Below w.heap.size w w') : w'.ownsRow n₀ e sz v n xs := by
  refine ⟨h.1, ?_⟩
  rcases h.2 with hn | ⟨g, cap, cur, rfl, hb', hg, r⟩
  · exact .inl hn
  · exact .inr ⟨g, cap, cur, rfl, hb', (hb.block g (Array.getElem?_eq_some_iff.1 hg).1).trans hg, r⟩

theorem rowsOf_snoc (s : Int) (l : List Wr) (k : Nat) (x : Wr) (hk : l[k]? = some x) : rowsOf s (l.take (k + 1)) = rowsOf s (l.take k) ++ [rowOf (s + k) x] := by
  induction l generalizing s k with
  | nil => simp at hk
  | cons y l ih =>
    cases k with
    | zero => simp at hk; subst hk; simp [rowsOf]
    | succ k =>
      have := ih (s + 1) k (by simpa using hk)
      simp only [List.take_succ_cons, rowsOf, List.cons_append, this]
      rw [show s + 1 + (k : Int) = s + ((k + 1 : Nat) : Int) by omega]

set_option maxRecDepth 100000 in
set_option maxHeartbeats 4000000 in
theorem brows_any (w : World) (A : Option Addr) (c : Nat) (s : Int) (l : List Wr) (h : Wrs w A l) (hok : okB s l = true) :
    Calls Try.prog 40 #[.agg #[.int .u64 s, .slice A l.length c]] w (OwnRows w (rowsOf s l)) := by
  obtain ⟨-, h1, h2, -, h64, -⟩ := (okB_iff s l).1 hok
  have HO := Lib.hid (heap_alloc_new w (.cells #[.int .u64 s, .slice A l.length c] 59))
  have HB0 := Lib.hid ((Below.refl w.heap.size w).alloc (Nat.le_refl _) (.cells #[.int .u64 s, .slice A l.length c] 59))
  have HR := Lib.hid (fun W (hW : Below w.heap.size w W) => ckB_any W A c s l (h.below hW) hok)
  clear hok
  go_enter Try.func40, Try.ntmps40
  go_wp2_with (go_at_call 39; refine (HR.out _ HB0.out).mono ?_; rintro e1 w1 ⟨rfl, hb1⟩; have c0 : w1.cell? ⟨w.heap.size, 0, none⟩ = some (.int .u64 s) := cell_of (heap_on hb1 HO.out) 0; have c1 : w1.cell? ⟨w.heap.size, 1, none⟩ = some (.slice A l.length c) := cell_of (heap_on hb1 HO.out) 1)
  have HB1 := Lib.hid (below_step HB0.out hb1 (Nat.le_refl _))
  have HC1 := Lib.hid (heap_on hb1 HO.out)
  clear c0 c1 hb1
  go_loopw [3, 12] (fun u v wr => ∃ k : Nat, k ≤ l.length ∧ v = .int .i64 k ∧ wr.ownsRow w.heap.size 27 4 u (rowsOf s (l.take k)).length (flat (rowsOf s (l.take k))) ∧ Below w.heap.size w wr ∧ wr.heap[w.heap.size]? = some (.cells #[.int .u64 s, .slice A l.length c] 59)) (fun _ v _ => l.length - (intOf v).toNat)
  case atStart => exact ⟨0, Nat.zero_le _, rfl, World.ownsRow_nil _ _ _ _, HB1.out, HC1.out⟩
  case round =>
    obtain ⟨k, hk, rfl, hrow, hb, hc⟩ := hrel
    have HC := Lib.hid hc
    clear hc
    by_cases hlt : k < l.length
    · have hq : l[k]? = some l[k] := List.getElem?_eq_getElem hlt
      have hsn := rowsOf_snoc s l k l[k] hq
      obtain ⟨L, hL⟩ : ∃ L, rowsOf s (l.take k) = L := ⟨_, rfl⟩
      have hLl : L.length = k := by rw [← hL, rowsOf_len, List.length_take]; omega
      obtain ⟨g, o, rfl, x0, x1, x2⟩ := h.at hq
      obtain ⟨x, hx⟩ : ∃ x, l[k] = x := ⟨_, rfl⟩
      rw [hx] at x0 x1 x2 hsn
      rw [hL] at hsn hrow
      have x0 := cell_on hb x0
      have x1 := cell_on hb x1
      have x2 := cell_on hb x2
      have HSN := Lib.hid hsn
      have HLL := Lib.hid hLl
      clear hq hx hsn hL hLl
      go_upto_region 7 with (refine wpList_store_new rfl 80 _ _ rfl 80 wrZ (wrC x) rfl rfl rfl Try.size80 (wrC_one x) ?_; intro W0 hb0 hO0)
      have y0 : W0.cell? ⟨wr.heap.size, 0, none⟩ = some (.int .i64 x.kind) := cell_of hO0 0
      have y1 : W0.cell? ⟨wr.heap.size, 1, none⟩ = some (.string x.key) := cell_of hO0 1
      have y2 : W0.cell? ⟨wr.heap.size, 2, none⟩ = some (.string x.val) := cell_of hO0 2
      have c0 : W0.cell? ⟨w.heap.size, 0, none⟩ = some (.int .u64 s) := cell_of (heap_on hb0 HC.out) 0
      have HC0 := Lib.hid (heap_on hb0 HC.out)
      have hb2 := below_step hb hb0 (Nat.le_refl _)
      have hrow0 := own_below hrow hb0
      have hwr : IntKind.u64.wrap (k : Int) = (k : Int) := by simp [IntKind.wrap, IntKind.bits, IntKind.signed]; omega
      have hwr2 : IntKind.u64.wrap (s + (k : Int)) = s + (k : Int) := by simp [IntKind.wrap, IntKind.bits, IntKind.signed]; omega
      have HR0 := Lib.hid hrow0
      clear x0 x1 x2 hO0 hrow hrow0
      obtain ⟨kd, ky, vl⟩ := x
      simp only at y0 y1 y2
      go_wp2_with (at_builtin; refine wpList_append_row rfl (.tmp 17) (.tmp 30) rfl _ L ⟨ky, s + (k : Int), kd, vl⟩ rfl rfl HR0.out (by have := HLL.out; omega) hb2.size ?_; intro g9 c9 W9 hrows9 hg9; have hb9 := below_append hb2 HR0.out hb2.size hg9)
      go_roundw
      case rel =>
        refine ⟨k + 1, by omega, by go_num, ?_, hb9, ?_⟩
        · rw [HSN.out]
          have hl2 := HLL.out
          simp only [List.length_append, List.length_cons, List.length_nil, rowOf] at hrows9 ⊢
          exact hrows9
        · have hlt9 := (Array.getElem?_eq_some_iff.1 HC0.out).1
          refine (hg9.block _ (by rw [World.size_alloc]; omega) (fun e => ?_)).trans ((heap_on ((Below.refl _ _).alloc (Nat.le_refl _) _) HC0.out))
          obtain ⟨cur, hcur⟩ := own_at HR0.out _ e.symm
          rw [HC0.out] at hcur
          injection hcur with hcur
          injection hcur with _ hcur
          exact absurd hcur (by decide)
      case measure => simp [intOf]; omega
    · obtain rfl : k = l.length := by omega
      rw [List.take_length] at hrow
      have HROW := Lib.hid hrow
      clear hrow
      go_wp2
      go_ret
      exact ⟨_, rfl, HROW.out, hb⟩
end Go.Proofs.Ythhdameaihclmaa
