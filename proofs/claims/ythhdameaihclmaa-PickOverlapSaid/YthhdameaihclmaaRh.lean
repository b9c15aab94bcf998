/- SameRows of equal rows is true; Len, Height, Steps and All of the skip list. Condition: at most 2^32 rows. -/
import Derived.Test.YthhdameaihclmaaRg
import Derived.Laws.StructEq
namespace Go.Proofs.Ythhdameaihclmaa
open Go.RowKit Sk

set_option maxRecDepth 100000 in
set_option maxHeartbeats 1000000 in
theorem same_any (w : World) (A A' : Option Addr) (c c' : Nat) (l : List Rw) (h : Rows_ w A l) (h' : Rows_ w A' l) (hlen : l.length ≤ 4294967296) :
    Calls Try.prog 12 #[.slice A l.length c, .slice A' l.length c'] w fun e w' => e = .returned (.bool true) ∧ Below w.heap.size w w' := by
  go_enter Try.func12, Try.ntmps12
  go_wp2
  go_loopw [5] (fun v wr => ∃ k : Nat, k ≤ l.length ∧ v = .int .i64 k ∧ Below w.heap.size w wr) (fun v _ => l.length - (intOf v).toNat)
  case atStart => exact ⟨0, Nat.zero_le _, rfl, Below.refl _ _⟩
  case round =>
    obtain ⟨k, hk, rfl, hb⟩ := hrel
    by_cases hlt : k < l.length
    · have hq : l[k]? = some l[k] := List.getElem?_eq_getElem hlt
      obtain ⟨g, o, rfl, h0, h1, h2, h3⟩ := (h.below hb).at hq
      obtain ⟨g', o', rfl, h0', h1', h2', h3'⟩ := (h'.below hb).at hq
      clear hq
      obtain ⟨r, hr⟩ : ∃ r, l[k] = r := ⟨_, rfl⟩
      rw [hr] at h0 h1 h2 h3 h0' h1' h2' h3'
      clear hr
      have hi1 : (0 : Int) ≤ (k : Int) := by omega
      have hi2 : (k : Int) < (l.length : Int) := by omega
      go_wp2
      go_quiet (fail)
      go_wp2
      go_roundw
      case rel => exact ⟨k + 1, by omega, by go_num, below_drewN hb _⟩
      case measure => simp [intOf]; omega
    · go_wp2
      go_ret
      exact ⟨rfl, hb⟩

set_option maxHeartbeats 400000 in
theorem len_any (w : World) (B T : Nat) (rest : Array Value) (ns : List Nd) (h : SL w B T rest ns) :
    Calls Try.prog 16 #[.pointer (some ⟨B, 0, none⟩)] w fun e w' => e = .returned (.int .i64 (ns.length : Int)) ∧ w' = w := by
  have h1 : w.cell? ⟨B, 16, none⟩ = some (.int .i64 (ns.length : Int)) := by rw [cell_of h.head, headC_len]
  go_enter Try.func16, Try.ntmps16
  go_wp2
  go_ret
  exact ⟨rfl, rfl⟩
set_option maxHeartbeats 400000 in
theorem height_any (w : World) (B T : Nat) (rest : Array Value) (ns : List Nd) (h : SL w B T rest ns) :
    Calls Try.prog 17 #[.pointer (some ⟨B, 0, none⟩)] w fun e w' => e = .returned (.int .i64 (mxh ns : Int)) ∧ w' = w := by
  have h1 : w.cell? ⟨B, 17, none⟩ = some (.int .i64 (mxh ns : Int)) := by rw [cell_of h.head, headC_hgt]
  go_enter Try.func17, Try.ntmps17
  go_wp2
  go_ret
  exact ⟨rfl, rfl⟩
set_option maxRecDepth 100000 in
set_option maxHeartbeats 1000000 in
theorem steps_any (w : World) (B T : Nat) (rest : Array Value) (ns : List Nd) (key : ByteArray) (seq : Int) (h : SL w B T rest ns) (hlen : ns.length ≤ 4294967296) :
    Calls Try.prog 14 #[.pointer (some ⟨B, 0, none⟩), .string key, .int .u64 seq] w fun e w' => e = .returned (.int .i64 ((steps (hs ns) (place (rs ns) key seq) 0 : Nat) : Int)) ∧ Below w.heap.size w w' := by
  have HS1 := Lib.hid (search_any w B T rest ns key seq h hlen)
  go_enter Try.func14, Try.ntmps14
  go_wp2_with (first
    | (go_at_call 31; refine HS1.out.mono ?_; rintro e1 w1 ⟨rfl, hb1⟩)
    | (refine wpList_store_new rfl 29 _ _ rfl 29 ptr0 (bef B ns (place (rs ns) key seq) 0) rfl rfl rfl Try.size29 (ptrs_one _) ?_; intro W hbW hA))
  go_ret
  exact ⟨rfl, below_step hb1 hbW (Nat.le_refl _)⟩
set_option maxHeartbeats 400000 in
theorem all_any (p : Option Addr) (w : World) :
    Calls Try.prog 34 #[.pointer p] w fun e w' =>
      e = .returned (.func (.func 46) #[] #[.pointer (some ⟨w.heap.size, 0, none⟩), .pointer (some ⟨w.heap.size + 1, 0, none⟩), .pointer (some ⟨w.heap.size + 1 + 1, 0, none⟩)]) ∧
      Below w.heap.size w w' ∧ w.heap.size + 3 ≤ w'.heap.size ∧ w'.cell? ⟨w.heap.size, 0, none⟩ = some (.pointer p) ∧ w'.cell? ⟨w.heap.size + 1, 0, none⟩ = some (.string ⟨#[]⟩) ∧ w'.cell? ⟨w.heap.size + 1 + 1, 0, none⟩ = some (.int .u64 18446744073709551615) := by
  go_enter Try.func34, Try.ntmps34
  go_wp2_with (go_at_call 33; refine (from_any _ _ _ _).mono ?_; rintro e1 w1 ⟨rfl, hq⟩)
  go_ret
  exact ⟨rfl, hq⟩
end Go.Proofs.Ythhdameaihclmaa
