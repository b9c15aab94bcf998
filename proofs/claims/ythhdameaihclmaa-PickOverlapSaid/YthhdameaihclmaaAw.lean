/- The function awake of the statements of layer 8 returns true. Condition: none. -/
import Derived.Test.YthhdameaihclmaaRh
namespace Go.Proofs.Ythhdameaihclmaa
open Go.RowKit Sk

theorem put_at (w : World) (B T : Nat) (rest : Array Value) (ns : List Nd) (r : Rw) (hgt : Int) (e : Nat) (h : SL w B T rest ns) (hlen : ns.length ≤ 4294967296) (hp : place (rs ns) r.key r.seq = e)
    (hn : ∀ n, ns[e]? = some n → at_ n.row r.key r.seq = false) (hw : 0 ≤ r.seq ∧ r.seq ≤ 18446744073709551615) (hg1 : -9223372036854775808 ≤ hgt) (hg2 : hgt ≤ 9223372036854775807) (n₀ : Nat) (hn0 : n₀ ≤ w.heap.size) (hbl : ∀ b, blks B ns b → n₀ ≤ b) :
    Calls Try.prog 9 #[.pointer (some ⟨B, 0, none⟩), .agg #[.string r.key, .int .u64 r.seq, .int .i64 r.kind, .string r.val], .int .i64 hgt] w fun e' w' =>
      e' = .returned (.bool true) ∧ ∃ g, SL w' B T rest (insN ns e ⟨g, r, clampH hgt⟩) ∧ Below n₀ w w' ∧ Off (blks B ns) w w' ∧ n₀ ≤ w'.heap.size ∧ ∀ b, blks B (insN ns e ⟨g, r, clampH hgt⟩) b → n₀ ≤ b := by
  subst hp
  refine (put_new w B T rest ns r hgt h hlen hn hw hg1 hg2).mono ?_
  rintro e' w' ⟨rfl, g, h1, h2, h3⟩
  refine ⟨rfl, g, h2, h3.below hn0 hbl, h3, Nat.le_trans hn0 h3.size, fun b hb => ?_⟩
  rcases hb with rfl | hb
  · exact hbl _ (.inl rfl)
  · obtain ⟨m, hm, rfl⟩ := List.mem_map.1 hb
    unfold insN at hm
    rcases List.mem_append.1 hm with hm | hm
    · exact hbl _ (.inr (List.mem_map.2 ⟨m, List.mem_of_mem_take hm, rfl⟩))
    · rcases List.mem_cons.1 hm with rfl | hm
      · exact Nat.le_trans hn0 h1
      · exact hbl _ (.inr (List.mem_map.2 ⟨m, List.mem_of_mem_drop hm, rfl⟩))

def listZ : Array Value := headC (fun _ => none) 0 0 #[]
theorem SL.zero (w : World) : SL (w.alloc (.cells listZ 33)) w.heap.size 33 #[] [] :=
  ⟨by rw [heap_alloc_new]; rfl, fun q n h => by simp at h, List.Pairwise.nil, fun n h => by simp at h, fun n h => by simp at h, by simp⟩

def ra1 : Rw := ⟨⟨#[97]⟩, 1, 0, ⟨#[]⟩⟩
def ra2 : Rw := ⟨⟨#[97]⟩, 2, 0, ⟨#[]⟩⟩
def rb1 : Rw := ⟨⟨#[98]⟩, 1, 0, ⟨#[]⟩⟩
theorem tl (a : Array UInt8) : (⟨a⟩ : ByteArray).toList = a.toList := ByteArray.toList_eq _

set_option maxRecDepth 100000 in
set_option maxHeartbeats 1000000 in
theorem awake_any (w : World) : Calls Try.prog 7 #[] w fun e w' => e = .returned (.bool true) ∧ Below w.heap.size w w' := by
  have hb0 : Below w.heap.size w (w.alloc (.cells listZ 33)) := (Below.refl _ _).alloc (Nat.le_refl _) _
  have HP1 := Lib.hid (put_at _ _ 33 #[] [] ra1 1 0 (SL.zero w) (by simp) rfl (fun n h => by simp at h) (by decide) (by decide) (by decide) w.heap.size hb0.size (fun b hb => by rcases hb with rfl | hb; exact Nat.le_refl _; simp at hb))
  have HB0 := Lib.hid hb0
  clear hb0
  go_enter Try.func7, Try.ntmps7
  go_wp2_with fail
  refine HP1.out.mono ?_
  rintro e1 w1 ⟨rfl, g1, S1, hb1, -, hz1, hbl1⟩
  have HP2 := put_at w1 _ 33 #[] _ ra2 3 0 S1 (by simp [insN]) (by simp [rs, insN, place, ah, ra1, ra2, tl, Op.bytesLess]) (fun n h => by simp [insN] at h; subst h; simp [at_, ra1, ra2]) (by decide) (by decide) (by decide) w.heap.size hz1 hbl1
  have HP2 := Lib.hid HP2
  go_wp2_with fail
  refine HP2.out.mono ?_
  rintro e2 w2 ⟨rfl, g2, S2, hb2, -, hz2, hbl2⟩
  have HP3 := put_at w2 _ 33 #[] _ rb1 2 2 S2 (by simp [insN]) (by simp [rs, insN, place, ah, ra1, ra2, rb1, tl, Op.bytesLess]) (fun n h => by simp [insN] at h) (by decide) (by decide) (by decide) w.heap.size hz2 hbl2
  have HP3 := Lib.hid HP3
  go_wp2_with fail
  refine HP3.out.mono ?_
  rintro e3 w3 ⟨rfl, g3, S3, hb3, -, hz3, hbl3⟩
  obtain ⟨ns, hns⟩ : ∃ ns, insN (insN (insN [] 0 ⟨g1, ra1, clampH 1⟩) 0 ⟨g2, ra2, clampH 3⟩) 2 ⟨g3, rb1, clampH 2⟩ = ns := ⟨_, rfl⟩
  have hnse : ns = [⟨g2, ra2, 3⟩, ⟨g1, ra1, 1⟩, ⟨g3, rb1, 2⟩] := by rw [← hns, show clampH 1 = 1 by unfold clampH; omega, show clampH 3 = 3 by unfold clampH; omega, show clampH 2 = 2 by unfold clampH; omega]; simp [insN]
  rw [hns] at S3 hbl3
  have hseek := seek_any w3 _ 33 #[] ns ⟨#[97]⟩ 0 S3 (by rw [hnse]; simp)
  have hpa : (rs ns)[place (rs ns) ⟨#[97]⟩ 0]? = some rb1 := by rw [hnse]; simp [rs, place, ah, ra1, ra2, rb1, tl, Op.bytesLess]
  rw [hpa] at hseek
  simp only [seekV, rowC, rb1] at hseek
  have hl3 : ns.length = 3 := by rw [hnse]; rfl
  have hm3 : mxh ns = 3 := by rw [hnse]; rfl
  have hpb : steps (hs ns) (place (rs ns) ⟨#[98]⟩ 1) 0 = 2 := by
    have : place (rs ns) ⟨#[98]⟩ 1 = 2 := by rw [hnse]; simp [rs, place, ah, ra1, ra2, rb1, tl, Op.bytesLess]
    rw [this, hnse]; show steps [3, 1, 2] 2 0 = 2; decide
  have HS := Lib.hid hseek
  have HL := Lib.hid hl3
  have HM := Lib.hid hm3
  have HPB := Lib.hid hpb
  clear hseek hpa hl3 hm3 hpb hns hnse
  go_wp2_with fail
  refine HS.out.mono ?_
  rintro e4 w4 ⟨rfl, hb4⟩
  have hb03 : Below w.heap.size w w3 := ((HB0.out.trans hb1).trans hb2).trans hb3
  have hb04 : Below w.heap.size w w4 := hb03.trans (hb4.mono hz3)
  have hA : Below w4.heap.size w4 (w4.alloc (.cells #[.string ⟨#[98]⟩, .int .u64 1, .int .i64 0, .string ⟨#[]⟩] 27)) := (Below.refl _ _).alloc (Nat.le_refl _) _
  have S5 := (S3.below hb4).below hA
  have HLn := Lib.hid (len_any _ _ 33 #[] ns S5)
  have HHt := Lib.hid (height_any _ _ 33 #[] ns S5)
  have HSt := Lib.hid (steps_any _ _ 33 #[] ns ⟨#[98]⟩ 1 S5 (by rw [HL.out]; omega))
  have HA := Lib.hid hA
  clear hA
  go_wp2_with (first
    | (go_at_call 16; refine HLn.out.mono ?_; rintro e5 w5 ⟨rfl, rfl⟩; rw [HL.out])
    | (go_at_call 17; refine HHt.out.mono ?_; rintro e6 w6 ⟨rfl, rfl⟩; rw [HM.out])
    | (go_at_call 14; refine HSt.out.mono ?_; rintro e7 w7 ⟨rfl, hb7⟩; rw [HPB.out]))
  go_ret
  exact ⟨rfl, below_step (below_step hb04 HA.out (Nat.le_refl _)) hb7 (Nat.le_refl _)⟩
end Go.Proofs.Ythhdameaihclmaa
