/- Slices of rows and of ints that are read; Ahead, Place and There of the reference. Condition: at most 2^32 rows. -/
import Derived.Test.YthhdameaihclmaaPut
import Derived.Laws.OwnMore
namespace Go.Proofs.Ythhdameaihclmaa
open Go.RowKit Sk

/-! ## slices of rows, slices of ints, that are read -/
def RowsAt (w : World) (g o : Nat) (l : List Rw) : Prop :=
  ∀ (k : Nat) (r : Rw), l[k]? = some r → w.cell? ⟨g, o + k * 4, none⟩ = some (.string r.key) ∧ w.cell? ⟨g, o + k * 4 + 1, none⟩ = some (.int .u64 r.seq) ∧
    w.cell? ⟨g, o + k * 4 + 2, none⟩ = some (.int .i64 r.kind) ∧ w.cell? ⟨g, o + k * 4 + 3, none⟩ = some (.string r.val)
/-- A slice value that reads as rows. -/
def Rows_ (w : World) (A : Option Addr) (l : List Rw) : Prop := l = [] ∨ ∃ g o, A = some ⟨g, o, none⟩ ∧ RowsAt w g o l
def Ints_ (w : World) (A : Option Addr) (l : List Int) : Prop := l = [] ∨ ∃ g o, A = some ⟨g, o, none⟩ ∧ ∀ (k : Nat) (x : Int), l[k]? = some x → w.cell? ⟨g, o + k, none⟩ = some (.int .i64 x)
theorem RowsAt.below {w w' : World} {g o : Nat} {l : List Rw} (h : RowsAt w g o l) (hb : Below w.heap.size w w') : RowsAt w' g o l := fun k r hk => by
  obtain ⟨h0, h1, h2, h3⟩ := h k r hk
  exact ⟨cell_on hb h0, cell_on hb h1, cell_on hb h2, cell_on hb h3⟩
theorem Rows_.below {w w' : World} {A : Option Addr} {l : List Rw} (h : Rows_ w A l) (hb : Below w.heap.size w w') : Rows_ w' A l := by
  rcases h with h | ⟨g, o, e, h⟩
  · exact .inl h
  · exact .inr ⟨g, o, e, h.below hb⟩
theorem Ints_.below {w w' : World} {A : Option Addr} {l : List Int} (h : Ints_ w A l) (hb : Below w.heap.size w w') : Ints_ w' A l := by
  rcases h with h | ⟨g, o, e, h⟩
  · exact .inl h
  · exact .inr ⟨g, o, e, fun k x hk => cell_on hb (h k x hk)⟩
theorem Rows_.at {w : World} {A : Option Addr} {l : List Rw} (h : Rows_ w A l) {k : Nat} {r : Rw} (hk : l[k]? = some r) : ∃ g o, A = some ⟨g, o, none⟩ ∧
    w.cell? ⟨g, o + k * 4, none⟩ = some (.string r.key) ∧ w.cell? ⟨g, o + k * 4 + 1, none⟩ = some (.int .u64 r.seq) ∧ w.cell? ⟨g, o + k * 4 + 2, none⟩ = some (.int .i64 r.kind) ∧ w.cell? ⟨g, o + k * 4 + 3, none⟩ = some (.string r.val) := by
  rcases h with rfl | ⟨g, o, e, h⟩
  · simp at hk
  · exact ⟨g, o, e, h k r hk⟩
theorem Ints_.at {w : World} {A : Option Addr} {l : List Int} (h : Ints_ w A l) {k : Nat} {x : Int} (hk : l[k]? = some x) : ∃ g o, A = some ⟨g, o, none⟩ ∧ w.cell? ⟨g, o + k, none⟩ = some (.int .i64 x) := by
  rcases h with rfl | ⟨g, o, e, h⟩
  · simp at hk
  · exact ⟨g, o, e, h k x hk⟩

set_option maxHeartbeats 400000 in
theorem aheadR_any (r : Rw) (key : ByteArray) (seq : Int) (w : World) :
    Calls Try.prog 30 #[.agg #[.string r.key, .int .u64 r.seq, .int .i64 r.kind, .string r.val], .string key, .int .u64 seq] w fun e w' =>
      e = .returned (.bool (ah r key seq)) ∧ Below w.heap.size w w' := by
  obtain ⟨k, s, kd, v⟩ := r
  go_enter Try.func30, Try.ntmps30
  go_wp2
  all_goals
    go_ret
    refine ⟨?_, ((Below.refl _ _).alloc (Nat.le_refl _) _)⟩
    first | (simp [ah, *]; done) | (simp_all [ah, bl_eq, List.lt_irrefl])
theorem aheadR_is {r : Rw} {key : ByteArray} {seq : Int} {b : Bool} (hb : ah r key seq = b) (w : World) :
    Calls Try.prog 30 #[.agg #[.string r.key, .int .u64 r.seq, .int .i64 r.kind, .string r.val], .string key, .int .u64 seq] w fun e w' =>
      e = .returned (.bool b) ∧ Below w.heap.size w w' := by
  subst hb; exact aheadR_any r key seq w

theorem place_step {l : List Rw} {k : ByteArray} {s : Int} {q : Nat} {r : Rw} (hq : l[q]? = some r) (hle : q ≤ place l k s) : ah r k s = decide (q < place l k s) := by
  by_cases h : q < place l k s
  · rw [place_at hq h, decide_eq_true h]
  · rw [decide_eq_false h]
    obtain rfl : q = place l k s := by omega
    exact place_end hq

set_option maxHeartbeats 1000000 in
theorem place_any (w : World) (A : Option Addr) (c : Nat) (l : List Rw) (key : ByteArray) (seq : Int) (h : Rows_ w A l) (hlen : l.length ≤ 4294967296) :
    Calls Try.prog 8 #[.slice A l.length c, .string key, .int .u64 seq] w fun e w' => e = .returned (.int .i64 (place l key seq : Nat)) ∧ Below w.heap.size w w' := by
  have hpl := place_le l key seq
  go_enter Try.func8, Try.ntmps8
  go_wp2
  go_loopw [7] (fun v wr => ∃ k : Nat, k ≤ place l key seq ∧ v = .int .i64 k ∧ Below w.heap.size w wr) (fun v _ => l.length - (intOf v).toNat)
  case atStart => exact ⟨0, Nat.zero_le _, rfl, Below.refl _ _⟩
  case round =>
    obtain ⟨k, hk, rfl, hb⟩ := hrel
    by_cases hlt : k < l.length
    · have hq : l[k]? = some l[k] := List.getElem?_eq_getElem hlt
      obtain ⟨g, o, rfl, h0, h1, h2, h3⟩ := (h.below hb).at hq
      have ha := place_step hq hk
      obtain ⟨r, hr⟩ : ∃ r, l[k] = r := ⟨_, rfl⟩
      rw [hr] at ha h0 h1 h2 h3
      clear hq hr
      by_cases hp : k < place l key seq
      · rw [decide_eq_true hp] at ha
        have HA := Lib.hid ha
        clear ha
        go_wp2_with (go_at_call 30; refine (aheadR_is HA.out _).mono ?_; rintro e1 w1 ⟨rfl, hb1⟩)
        go_roundw
        case rel => exact ⟨k + 1, by omega, by go_num, below_step hb hb1 (Nat.le_refl _)⟩
        case measure => simp [intOf]; omega
      · rw [decide_eq_false hp] at ha
        have HA := Lib.hid ha
        clear ha
        go_wp2_with (go_at_call 30; refine (aheadR_is HA.out _).mono ?_; rintro e1 w1 ⟨rfl, hb1⟩)
        go_ret
        obtain rfl : k = place l key seq := by omega
        exact ⟨rfl, below_step hb hb1 (Nat.le_refl _)⟩
    · go_wp2
      go_ret
      obtain rfl : k = place l key seq := by omega
      exact ⟨rfl, hb⟩

/-- 'Has a row that place?' -/
def thereB (l : List Rw) (k : ByteArray) (s : Int) : Bool := match l[place l k s]? with | some r => at_ r k s | none => false
set_option maxHeartbeats 1000000 in
theorem there_any (w : World) (A : Option Addr) (c : Nat) (l : List Rw) (key : ByteArray) (seq : Int) (h : Rows_ w A l) (hlen : l.length ≤ 4294967296) :
    Calls Try.prog 32 #[.slice A l.length c, .string key, .int .u64 seq] w fun e w' => e = .returned (.bool (thereB l key seq)) ∧ Below w.heap.size w w' := by
  have hpl := place_le l key seq
  obtain ⟨p, hp⟩ : ∃ p, place l key seq = p := ⟨_, rfl⟩
  have hc := place_any w A c l key seq h hlen
  rw [hp] at hc hpl
  have HC := Lib.hid hc
  have HP := Lib.hid hp
  clear hc hp
  by_cases hlt : p < l.length
  · have hq : l[p]? = some l[p] := List.getElem?_eq_getElem hlt
    have HQ := Lib.hid hq
    obtain ⟨g, o, rfl, h0, h1, h2, h3⟩ := h.at hq
    obtain ⟨r, hr⟩ : ∃ r, l[p] = r := ⟨_, rfl⟩
    rw [hr] at h0 h1 h2 h3
    have HR := Lib.hid hr
    clear hq hr
    have hfin : thereB l key seq = at_ r key seq := by rw [thereB, HP.out, HQ.out, HR.out]
    have HF := Lib.hid hfin
    clear hfin
    cases hk : (r.key.toList == key.toList) with
    | false =>
      go_enter Try.func32, Try.ntmps32
      go_wp2_with (go_at_call 8; refine HC.out.mono ?_; rintro e1 w1 ⟨rfl, hb1⟩; have k0 := cell_on hb1 h0; have k1 := cell_on hb1 h1)
      go_ret
      exact ⟨by rw [HF.out, at_, hk]; rfl, hb1⟩
    | true =>
      cases hs : (r.seq == seq) with
      | false =>
        go_enter Try.func32, Try.ntmps32
        go_wp2_with (go_at_call 8; refine HC.out.mono ?_; rintro e1 w1 ⟨rfl, hb1⟩; have k0 := cell_on hb1 h0; have k1 := cell_on hb1 h1)
        go_ret
        exact ⟨by rw [HF.out, at_, hk, hs]; rfl, hb1⟩
      | true =>
        go_enter Try.func32, Try.ntmps32
        go_wp2_with (go_at_call 8; refine HC.out.mono ?_; rintro e1 w1 ⟨rfl, hb1⟩; have k0 := cell_on hb1 h0; have k1 := cell_on hb1 h1)
        go_ret
        exact ⟨by rw [HF.out, at_, hk, hs]; rfl, hb1⟩
  · have hfin : thereB l key seq = false := by rw [thereB, HP.out, List.getElem?_eq_none (by omega)]
    have HF := Lib.hid hfin
    clear hfin
    go_enter Try.func32, Try.ntmps32
    go_wp2_with (go_at_call 8; refine HC.out.mono ?_; rintro e1 w1 ⟨rfl, hb1⟩)
    go_ret
    exact ⟨by rw [HF.out]; rfl, hb1⟩
end Go.Proofs.Ythhdameaihclmaa
