/- Room, Least and Greatest of package mem. Conditions: none. -/
import Derived.Test.YthhdameaihclmaaMn
namespace Go.Proofs.Ythhdameaihclmaa
open Go.RowKit Sk

theorem tab_cells {w : World} {B : Nat} {made room least greatest : Value} {ns : List Nd} (h : SL w B 85 #[made, room, least, greatest] ns) :
    w.cell? ⟨B, 18, none⟩ = some made ∧ w.cell? ⟨B, 19, none⟩ = some room ∧ w.cell? ⟨B, 20, none⟩ = some least ∧ w.cell? ⟨B, 21, none⟩ = some greatest := by
  refine ⟨?_, ?_, ?_, ?_⟩ <;> (rw [cell_of h.head]; simp [headC, nodeC])

theorem room_any (w : World) (B : Nat) (room least greatest : Value) (ns : List Nd) (h : SL w B 85 #[.bool true, room, least, greatest] ns) :
    Calls Try.prog 35 #[.pointer (some ⟨B, 0, none⟩)] w fun e w' => e = .returned room ∧ w' = w := by
  obtain ⟨-, m1, -, -⟩ := tab_cells h
  have HN := Lib.hid (none_any w B room least greatest ns h)
  clear h
  go_enter Try.func35, Try.ntmps35
  go_wp2_with (go_at_call 38; refine HN.out.mono ?_; rintro e1 w1 ⟨rfl, rfl⟩)
  go_ret
  exact ⟨rfl, rfl⟩

theorem least_any (w : World) (B : Nat) (room least greatest : Value) (ns : List Nd) (h : SL w B 85 #[.bool true, room, least, greatest] ns) :
    Calls Try.prog 36 #[.pointer (some ⟨B, 0, none⟩)] w fun e w' => e = .returned least ∧ w' = w := by
  obtain ⟨-, -, m2, -⟩ := tab_cells h
  have HN := Lib.hid (none_any w B room least greatest ns h)
  clear h
  go_enter Try.func36, Try.ntmps36
  go_wp2_with (go_at_call 38; refine HN.out.mono ?_; rintro e1 w1 ⟨rfl, rfl⟩)
  go_ret
  exact ⟨rfl, rfl⟩

theorem greatest_any (w : World) (B : Nat) (room least greatest : Value) (ns : List Nd) (h : SL w B 85 #[.bool true, room, least, greatest] ns) :
    Calls Try.prog 37 #[.pointer (some ⟨B, 0, none⟩)] w fun e w' => e = .returned greatest ∧ w' = w := by
  obtain ⟨-, -, -, m3⟩ := tab_cells h
  have HN := Lib.hid (none_any w B room least greatest ns h)
  clear h
  go_enter Try.func37, Try.ntmps37
  go_wp2_with (go_at_call 38; refine HN.out.mono ?_; rintro e1 w1 ⟨rfl, rfl⟩)
  go_ret
  exact ⟨rfl, rfl⟩
end Go.Proofs.Ythhdameaihclmaa
