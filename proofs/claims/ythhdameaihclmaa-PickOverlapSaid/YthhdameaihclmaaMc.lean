/- The functions Check and Next of the document's answers on batches, and Check and Rows of package batch. Conditions: at most 2^32 writes in memory. -/
import Derived.Test.YthhdameaihclmaaRp
import Derived.Test.YthhdameaihclmaaMp
namespace Go.Proofs.Ythhdameaihclmaa
open Go.RowKit Sk

def wrC (x : Wr) : Array Value := #[.int .i64 x.kind, .string x.key, .string x.val]
def WrAt (w : World) (g o : Nat) (x : Wr) : Prop :=
  w.cell? ⟨g, o, none⟩ = some (.int .i64 x.kind) ∧ w.cell? ⟨g, o + 1, none⟩ = some (.string x.key) ∧ w.cell? ⟨g, o + 2, none⟩ = some (.string x.val)
theorem WrAt.below {w w' : World} {g o : Nat} {x : Wr} (h : WrAt w g o x) (hb : Below w.heap.size w w') : WrAt w' g o x := ⟨cell_on hb h.1, cell_on hb h.2.1, cell_on hb h.2.2⟩
def Wrs (w : World) (A : Option Addr) (l : List Wr) : Prop := l = [] ∨ ∃ g o, A = some ⟨g, o, none⟩ ∧ ∀ k x, l[k]? = some x → WrAt w g (o + k * 3) x
theorem Wrs.below {w w' : World} {A : Option Addr} {l : List Wr} (h : Wrs w A l) (hb : Below w.heap.size w w') : Wrs w' A l := by
  rcases h with h | ⟨g, o, e, h⟩
  · exact .inl h
  · exact .inr ⟨g, o, e, fun k x hk => (h k x hk).below hb⟩
theorem Wrs.at {w : World} {A : Option Addr} {l : List Wr} (h : Wrs w A l) {k : Nat} {x : Wr} (hk : l[k]? = some x) : ∃ g o, A = some ⟨g, o, none⟩ ∧ WrAt w g (o + k * 3) x := by
  rcases h with rfl | ⟨g, o, e, h⟩
  · simp at hk
  · exact ⟨g, o, e, h k x hk⟩

/-- 'May a write be?' -/
def badW (x : Wr) : Bool := (decide (x.kind ≠ 1) && decide (x.kind ≠ 2)) || (x.key.size == 0) || (decide (x.kind = 2) && decide (0 < x.val.size))
def longW (x : Wr) : Bool := decide (520 < x.key.size) || decide (2048 < x.val.size)
/-- A batch that may be. -/
def okB (s : Int) (l : List Wr) : Bool := !l.isEmpty && decide (1 ≤ s) && decide (s ≤ 72057594037927872) && !l.any badW && decide (l.length ≤ 64) && !l.any longW
theorem okB_iff (s : Int) (l : List Wr) : okB s l = true ↔ l ≠ [] ∧ 1 ≤ s ∧ s ≤ 72057594037927872 ∧ (∀ x ∈ l, badW x = false) ∧ l.length ≤ 64 ∧ ∀ x ∈ l, longW x = false := by
  simp [okB, and_assoc]

theorem Try.size80 : (Try.prog.info? 80).map (·.size) = some 3 := by kernel_rfl
theorem wrC_one (x : Wr) : (wrC x).all (·.oneCell') = true := by simp [wrC, Value.oneCell']
def wrZ : Array Value := #[.int .i64 0, .string ⟨#[]⟩, .string ⟨#[]⟩]

set_option maxRecDepth 100000 in
set_option maxHeartbeats 4000000 in
theorem refCheck_any (w : World) (A : Option Addr) (c : Nat) (s : Int) (l : List Wr) (h : Wrs w A l) (hlen : l.length ≤ 4294967296) :
    Calls Try.prog 21 #[.agg #[.int .u64 s, .slice A l.length c]] w fun e w' => (∃ v : Int, e = .returned (.int .i64 v) ∧ (v = 0 ↔ okB s l = true)) ∧ Below w.heap.size w w' := by
  have HO := Lib.hid (heap_alloc_new w (.cells #[.int .u64 s, .slice A l.length c] 59))
  have HB0 := Lib.hid ((Below.refl w.heap.size w).alloc (Nat.le_refl _) (.cells #[.int .u64 s, .slice A l.length c] 59))
  have HOK := Lib.hid (okB_iff s l)
  by_cases hl0 : l.length = 0
  · have hne : ¬ okB s l = true := fun h => ((HOK.out).1 h).1 (List.eq_nil_of_length_eq_zero hl0)
    have HNE := Lib.hid hne
    clear hne
    rw [hl0] at HB0 ⊢
    go_enter Try.func21, Try.ntmps21
    go_wp2
    go_ret
    exact ⟨⟨2, rfl, ⟨fun h => absurd h (by decide), fun h => absurd h HNE.out⟩⟩, HB0.out⟩
  · by_cases hs1 : s < 1
    · have HNE := Lib.hid (show ¬ okB s l = true from fun h => absurd ((HOK.out).1 h).2.1 (by omega))
      have hln : ¬ ((l.length : Int) = 0) := by omega
      go_enter Try.func21, Try.ntmps21
      go_wp2
      go_ret
      exact ⟨⟨2, rfl, ⟨fun h => absurd h (by decide), fun h => absurd h HNE.out⟩⟩, HB0.out⟩
    · by_cases hs2 : 72057594037927872 < s
      · have HNE := Lib.hid (show ¬ okB s l = true from fun h => absurd ((HOK.out).1 h).2.2.1 (by omega))
        have hln : ¬ ((l.length : Int) = 0) := by omega
        go_enter Try.func21, Try.ntmps21
        go_wp2
        go_ret
        exact ⟨⟨2, rfl, ⟨fun h => absurd h (by decide), fun h => absurd h HNE.out⟩⟩, HB0.out⟩
      · have hln : ¬ ((l.length : Int) = 0) := by omega
        go_enter Try.func21, Try.ntmps21
        go_wp2
        go_loopw [3] (fun v wr => ∃ k : Nat, k ≤ l.length ∧ v = .int .i64 k ∧ (∀ x ∈ l.take k, badW x = false) ∧ Below w.heap.size w wr ∧ wr.heap[w.heap.size]? = some (.cells #[.int .u64 s, .slice A l.length c] 59)) (fun v _ => l.length - (intOf v).toNat)
        case atStart => exact ⟨0, Nat.zero_le _, rfl, by simp, HB0.out, HO.out⟩
        case round =>
          obtain ⟨k, hk, rfl, hnb, hb, hc⟩ := hrel
          have c0 : wr.cell? ⟨w.heap.size, 0, none⟩ = some (.int .u64 s) := cell_of hc 0
          have c1 : wr.cell? ⟨w.heap.size, 1, none⟩ = some (.slice A l.length c) := cell_of hc 1
          have HC := Lib.hid hc
          have HNB := Lib.hid hnb
          clear hnb hc
          by_cases hlt : k < l.length
          · have hq : l[k]? = some l[k] := List.getElem?_eq_getElem hlt
            have hmem : l[k] ∈ l := List.getElem_mem _
            have htk : l.take (k + 1) = l.take k ++ [l[k]] := by rw [List.take_append_getElem]
            obtain ⟨g, o, rfl, x0, x1, x2⟩ := h.at hq
            obtain ⟨x, hx⟩ : ∃ x, l[k] = x := ⟨_, rfl⟩
            rw [hx] at x0 x1 x2 hmem htk
            have x0 := cell_on hb x0
            have x1 := cell_on hb x1
            have x2 := cell_on hb x2
            have HMEM := Lib.hid hmem
            have HTK := Lib.hid htk
            clear hq hx hmem htk
            go_upto_region 7 with (refine wpList_store_new rfl 80 _ _ rfl 80 wrZ (wrC x) rfl rfl rfl Try.size80 (wrC_one x) ?_; intro W0 hb0 hO0)
            have y0 : W0.cell? ⟨wr.heap.size, 0, none⟩ = some (.int .i64 x.kind) := cell_of hO0 0
            have y1 : W0.cell? ⟨wr.heap.size, 1, none⟩ = some (.string x.key) := cell_of hO0 1
            have y2 : W0.cell? ⟨wr.heap.size, 2, none⟩ = some (.string x.val) := cell_of hO0 2
            have hb2 := below_step hb hb0 (Nat.le_refl _)
            have HC2 := Lib.hid (heap_on hb0 HC.out)
            clear x0 x1 x2 c0 c1 hO0
            have hfin : badW x = true → ¬ okB s l = true := fun hx h => by rw [((HOK.out).1 h).2.2.2.1 x HMEM.out] at hx; cases hx
            have HFIN := Lib.hid hfin
            clear hfin
            obtain ⟨kd, ky, vl⟩ := x
            simp only at y0 y1 y2
            by_cases k1 : kd = 1
            · subst k1
              by_cases hz : ky.size = 0
              · -- no key
                have hbad : badW ⟨1, ky, vl⟩ = true := by simp [badW, *]
                have HBAD := Lib.hid hbad
                have hzi : (((ky.size : Int)) == 0) = true := by first | exact beq_iff_eq.2 (by omega) | exact beq_eq_false_iff_ne.2 (by omega)
                have hzz : ((ky.size : Int) = 0) := by omega
                clear hz
                clear hbad
                go_wp2
                go_ret
                exact ⟨⟨2, rfl, ⟨fun h => absurd h (by decide), fun h => absurd h (HFIN.out HBAD.out)⟩⟩, hb2⟩
              · -- well
                have hbad : badW ⟨1, ky, vl⟩ = false := by simp [badW, *]
                have HBAD := Lib.hid hbad
                have hzi : (((ky.size : Int)) == 0) = false := by first | exact beq_iff_eq.2 (by omega) | exact beq_eq_false_iff_ne.2 (by omega)
                clear hz
                clear hbad
                go_wp2
                go_roundw
                case rel => exact ⟨k + 1, by omega, by go_num, by rw [HTK.out]; intro y hy; rcases List.mem_append.1 hy with hy | hy; exact HNB.out y hy; (simp at hy; subst hy; exact HBAD.out), hb2, HC2.out⟩
                case measure => simp [intOf]; omega
            · by_cases k2 : kd = 2
              · subst k2
                by_cases hz : ky.size = 0
                · -- no key
                  have hbad : badW ⟨2, ky, vl⟩ = true := by simp [badW, *]
                  have HBAD := Lib.hid hbad
                  have hzi : (((ky.size : Int)) == 0) = true := by first | exact beq_iff_eq.2 (by omega) | exact beq_eq_false_iff_ne.2 (by omega)
                  clear hz
                  clear hbad
                  go_wp2
                  go_ret
                  exact ⟨⟨2, rfl, ⟨fun h => absurd h (by decide), fun h => absurd h (HFIN.out HBAD.out)⟩⟩, hb2⟩
                · by_cases hv : 0 < vl.size
                  · -- a value
                    have hbad : badW ⟨2, ky, vl⟩ = true := by simp [badW, *]
                    have HBAD := Lib.hid hbad
                    have hzi : (((ky.size : Int)) == 0) = false := by first | exact beq_iff_eq.2 (by omega) | exact beq_eq_false_iff_ne.2 (by omega)
                    have hvi : decide ((0 : Int) < (vl.size : Int)) = true := decide_eq_true (by omega)
                    clear hz
                    clear hbad
                    go_wp2
                    go_ret
                    exact ⟨⟨2, rfl, ⟨fun h => absurd h (by decide), fun h => absurd h (HFIN.out HBAD.out)⟩⟩, hb2⟩
                  · -- well
                    have hbad : badW ⟨2, ky, vl⟩ = false := by simp [badW, *]
                    have HBAD := Lib.hid hbad
                    have hzi : (((ky.size : Int)) == 0) = false := by first | exact beq_iff_eq.2 (by omega) | exact beq_eq_false_iff_ne.2 (by omega)
                    have hvi : decide ((0 : Int) < (vl.size : Int)) = false := decide_eq_false (by omega)
                    clear hz
                    clear hbad
                    go_wp2
                    go_roundw
                    case rel => exact ⟨k + 1, by omega, by go_num, by rw [HTK.out]; intro y hy; rcases List.mem_append.1 hy with hy | hy; exact HNB.out y hy; (simp at hy; subst hy; exact HBAD.out), hb2, HC2.out⟩
                    case measure => simp [intOf]; omega
              · -- no such kind
                have hbad : badW ⟨kd, ky, vl⟩ = true := by simp [badW, *]
                have HBAD := Lib.hid hbad
                clear hbad
                go_wp2
                go_ret
                exact ⟨⟨2, rfl, ⟨fun h => absurd h (by decide), fun h => absurd h (HFIN.out HBAD.out)⟩⟩, hb2⟩
          · obtain rfl : k = l.length := by omega
            have hall : ∀ x ∈ l, badW x = false := by have := HNB.out; rw [List.take_length] at this; exact this
            have HALL := Lib.hid hall
            clear hall
            by_cases h64 : 64 < l.length
            · have HNE := Lib.hid (show ¬ okB s l = true from fun h => absurd ((HOK.out).1 h).2.2.2.2.1 (by omega))
              go_wp2
              go_ret
              exact ⟨⟨3, rfl, ⟨fun h => absurd h (by decide), fun h => absurd h HNE.out⟩⟩, hb⟩
            · go_wp2
              clear c0 c1
              go_loopw [5] (fun v w2 => ∃ j : Nat, j ≤ l.length ∧ v = .int .i64 j ∧ (∀ x ∈ l.take j, longW x = false) ∧ Below w.heap.size w w2 ∧ w2.heap[w.heap.size]? = some (.cells #[.int .u64 s, .slice A l.length c] 59)) (fun v _ => l.length - (intOf v).toNat)
              case atStart => exact ⟨0, Nat.zero_le _, rfl, by simp, hb, HC.out⟩
              case round =>
                obtain ⟨j, hj, rfl, hnl, hb2, hc⟩ := hrel
                obtain ⟨w2, rfl⟩ : ∃ w2, w2 = wr := ⟨_, rfl⟩
                have c0 : w2.cell? ⟨w.heap.size, 0, none⟩ = some (.int .u64 s) := cell_of hc 0
                have c1 : w2.cell? ⟨w.heap.size, 1, none⟩ = some (.slice A l.length c) := cell_of hc 1
                have HC := Lib.hid hc
                have HNL := Lib.hid hnl
                clear hnl hc
                by_cases hlt2 : j < l.length
                · have hq : l[j]? = some l[j] := List.getElem?_eq_getElem hlt2
                  have hmem : l[j] ∈ l := List.getElem_mem _
                  have htk : l.take (j + 1) = l.take j ++ [l[j]] := by rw [List.take_append_getElem]
                  obtain ⟨g, o, rfl, x0, x1, x2⟩ := h.at hq
                  obtain ⟨x, hx⟩ : ∃ x, l[j] = x := ⟨_, rfl⟩
                  rw [hx] at x0 x1 x2 hmem htk
                  have x1 := cell_on hb2 x1
                  have x2 := cell_on hb2 x2
                  have HMEM := Lib.hid hmem
                  have HTK := Lib.hid htk
                  have hfin : longW x = true → ¬ okB s l = true := fun hx h => by rw [((HOK.out).1 h).2.2.2.2.2 x HMEM.out] at hx; cases hx
                  have HFIN := Lib.hid hfin
                  clear hq hx hmem htk hfin x0
                  by_cases hz : 520 < x.key.size
                  · have hzi : decide ((520 : Int) < (x.key.size : Int)) = true := decide_eq_true (by omega)
                    have HBAD := Lib.hid (show longW x = true by simp [longW, *])
                    go_wp2
                    go_ret
                    exact ⟨⟨3, rfl, ⟨fun h => absurd h (by decide), fun h => absurd h (HFIN.out HBAD.out)⟩⟩, hb2⟩
                  · have hzi : decide ((520 : Int) < (x.key.size : Int)) = false := decide_eq_false (by omega)
                    by_cases hv : 2048 < x.val.size
                    · have hvi : decide ((2048 : Int) < (x.val.size : Int)) = true := decide_eq_true (by omega)
                      have HBAD := Lib.hid (show longW x = true by simp [longW, *])
                      go_wp2
                      go_ret
                      exact ⟨⟨3, rfl, ⟨fun h => absurd h (by decide), fun h => absurd h (HFIN.out HBAD.out)⟩⟩, hb2⟩
                    · have hvi : decide ((2048 : Int) < (x.val.size : Int)) = false := decide_eq_false (by omega)
                      have HBAD := Lib.hid (show longW x = false by simp [longW, *])
                      go_wp2
                      go_roundw
                      case rel => exact ⟨j + 1, by omega, by go_num, by rw [HTK.out]; intro y hy; rcases List.mem_append.1 hy with hy | hy; exact HNL.out y hy; (simp at hy; subst hy; exact HBAD.out), hb2, HC.out⟩
                      case measure => simp [intOf]; omega
                · obtain rfl : j = l.length := by omega
                  have hall : okB s l = true := (HOK.out).2 ⟨fun h => by subst h; simp at hl0, by omega, by omega, HALL.out, by omega, by have := HNL.out; rw [List.take_length] at this; exact this⟩
                  have HALL2 := Lib.hid hall
                  clear hall
                  go_wp2
                  go_ret
                  exact ⟨⟨0, rfl, ⟨fun _ => HALL2.out, fun _ => rfl⟩⟩, hb2⟩
end Go.Proofs.Ythhdameaihclmaa
