/- SkipPlays returns true. Condition: at most 150 calls. -/
import Derived.Test.YthhdameaihclmaaPs
import Derived.Deep.CutBlock
import Derived.Lib.QuietBelow
namespace Go.Proofs.Ythhdameaihclmaa
open Go.RowKit Sk

/-- A call of a script. -/
structure Opc where
  act : Int
  row : Rw
  hgt : Int
def opC (o : Opc) : Array Value := #[.int .i64 o.act, .string o.row.key, .int .u64 o.row.seq, .int .i64 o.row.kind, .string o.row.val, .int .i64 o.hgt]
def OpAt (w : World) (g o : Nat) (x : Opc) : Prop :=
  w.cell? ⟨g, o, none⟩ = some (.int .i64 x.act) ∧ w.cell? ⟨g, o + 1, none⟩ = some (.string x.row.key) ∧ w.cell? ⟨g, o + 2, none⟩ = some (.int .u64 x.row.seq) ∧
  w.cell? ⟨g, o + 3, none⟩ = some (.int .i64 x.row.kind) ∧ w.cell? ⟨g, o + 4, none⟩ = some (.string x.row.val) ∧ w.cell? ⟨g, o + 5, none⟩ = some (.int .i64 x.hgt)
theorem OpAt.below {w w' : World} {g o : Nat} {x : Opc} (h : OpAt w g o x) (hb : Below w.heap.size w w') : OpAt w' g o x :=
  ⟨cell_on hb h.1, cell_on hb h.2.1, cell_on hb h.2.2.1, cell_on hb h.2.2.2.1, cell_on hb h.2.2.2.2.1, cell_on hb h.2.2.2.2.2⟩
def Ops_ (w : World) (A : Option Addr) (l : List Opc) : Prop := l = [] ∨ ∃ g o, A = some ⟨g, o, none⟩ ∧ ∀ k x, l[k]? = some x → OpAt w g (o + k * 6) x

theorem Try.size39 : (Try.prog.info? 39).map (·.size) = some 6 := by kernel_rfl
theorem opC_one (x : Opc) : (opC x).all (·.oneCell') = true := by simp [opC, Value.oneCell']
theorem opAt_of {w : World} {g : Nat} {x : Opc} (h : w.heap[g]? = some (.cells (opC x) 39 (0, 0))) : OpAt w g 0 x :=
  ⟨cell_of h 0, cell_of h 1, cell_of h 2, cell_of h 3, cell_of h 4, cell_of h 5⟩
def opZ : Array Value := #[.int .i64 0, .string ⟨#[]⟩, .int .u64 0, .int .i64 0, .string ⟨#[]⟩, .int .i64 0]
theorem Ops_.at {w : World} {A : Option Addr} {l : List Opc} (h : Ops_ w A l) {k : Nat} {x : Opc} (hk : l[k]? = some x) : ∃ g o, A = some ⟨g, o, none⟩ ∧ OpAt w g (o + k * 6) x := by
  rcases h with rfl | ⟨g, o, e, h⟩
  · simp at hk
  · exact ⟨g, o, e, h k x hk⟩

theorem cell_on' {w w' : World} {a : Addr} {v : Value} (hb : Below w.heap.size w w') (h : w.cell? a = some v) : w'.cell? a = some v := cell_on hb h

theorem Rows_.take {w : World} {A : Option Addr} {l : List Rw} (h : Rows_ w A l) (m : Nat) : Rows_ w A (l.take m) := by
  rcases h with rfl | ⟨g, o, rfl, h⟩
  · exact .inl (by simp)
  · refine .inr ⟨g, o, rfl, fun k r hk => h k r ?_⟩
    rw [List.getElem?_take] at hk
    split at hk
    · exact hk
    · cases hk

set_option maxRecDepth 100000 in
set_option maxHeartbeats 40000000 in
theorem skipPlays_any (w : World) (A : Option Addr) (c : Nat) (ops : List Opc) (hr : Ops_ w A ops) (hl : ops.length ≤ 150)
    (hwf : ∀ x ∈ ops, (0 ≤ x.row.seq ∧ x.row.seq ≤ 18446744073709551615) ∧ -9223372036854775808 ≤ x.hgt ∧ x.hgt ≤ 9223372036854775807) :
    Calls Try.prog 3 #[.slice A ops.length c] w fun e w' => e = .returned (.bool true) ∧ Below w.heap.size w w' := by
  have HWF := Lib.hid hwf
  clear hwf
  go_enter Try.func3, Try.ntmps3
  go_wp2
  go_loopw [5] (fun v wr => ∃ (k : Nat) (ns : List Nd), k ≤ ops.length ∧ v = .int .i64 k ∧ ns.length ≤ k ∧ PS w ns (rs ns) (hs ns) wr) (fun v _ => ops.length - (intOf v).toNat)
  case atStart => exact ⟨0, [], Nat.zero_le _, rfl, Nat.le_refl _, PS.start w⟩
  case round =>
    obtain ⟨k, ns, hk, rfl, hnl, P⟩ := hrel
    by_cases hlt : k < ops.length
    · have hq : ops[k]? = some ops[k] := List.getElem?_eq_getElem hlt
      have hw := HWF.out ops[k] (List.getElem_mem _)
      obtain ⟨g, o, rfl, q0, q1, q2, q3, q4, q5⟩ := hr.at hq
      obtain ⟨x, hx⟩ : ∃ x, ops[k] = x := ⟨_, rfl⟩
      rw [hx] at q0 q1 q2 q3 q4 q5 hw
      have q0 := cell_on' P.below q0
      have q1 := cell_on' P.below q1
      have q2 := cell_on' P.below q2
      have q3 := cell_on' P.below q3
      have q4 := cell_on' P.below q4
      have q5 := cell_on' P.below q5
      clear hq hx
      obtain ⟨AR, cR, AH, cH, hb4, hRows, hInts, ho1, ho2⟩ := P.ref
      obtain ⟨e, he⟩ : ∃ e, place (rs ns) x.row.key x.row.seq = e := ⟨_, rfl⟩
      have hpl := fun W (hW : Below wr.heap.size wr W) => place_any W AR cR (rs ns) x.row.key x.row.seq (hRows.below hW) (by simp [rs]; omega)
      rw [he] at hpl
      have HPL := Lib.hid hpl
      have HE := Lib.hid he
      have HB4 := Lib.hid hb4
      clear hpl he hb4 ho1 ho2
      go_upto_block 2 with (first
        | (refine wpList_store_new rfl 39 _ _ rfl 39 opZ (opC x) rfl rfl rfl Try.size39 (opC_one x) ?_; intro W0 hb0 hO0
           have OA := Lib.hid (opAt_of hO0)
           obtain ⟨o0, o1, o2, o3, o4, o5⟩ := OA.out
           have r0 : W0.cell? ⟨w.heap.size + 1, 0, none⟩ = some (.slice AR (rs ns).length cR) := cell_on hb0 (cell_of HB4.out 0)
           have HO0 := Lib.hid hO0
           clear hO0)
        | (go_at_call 8; refine (HPL.out _ (by exact hb0)).mono ?_; rintro e1 w1 ⟨rfl, hb1⟩
           have hbw := below_step hb0 hb1 (Nat.le_refl _)
           have P1 := P.on hbw
           have OB := Lib.hid (OA.out.below hb1)
           obtain ⟨p0, p1, p2, p3, p4, p5⟩ := OB.out
           clear o0 o1 o2 o3 o4 o5 r0))
      clear q0 q1 q2 q3 q4 q5
      go_cut [3, 8, 9, 10, 37] (fun s3 s8 s9 s10 s37 wx => s3 = .pointer (some ⟨w.heap.size, 0, none⟩) ∧ ∃ ns', ns'.length ≤ k + 1 ∧ PS w ns' (rs ns') (hs ns') wx)
      case first =>
        by_cases h1 : x.act = 1
        · have HOB := Lib.hid (heap_on hb1 HO0.out)
          have HPU := Lib.hid (fun W (hP : PS w ns (rs ns) (hs ns) W) => put_ps hP x.row x.hgt (by omega) hw.1 hw.2.1 hw.2.2)
          have HPR := Lib.hid (fun (ns1 : List Nd) W (hP : PS w ns1 (rs ns) (hs ns) W) => putR_ps hP x.row x.hgt (by simp [rs]; omega) hw.2.1 hw.2.2)
          have HPU2 := Lib.hid (fun (l1 : List Rw) (hl1 : List Nat) W (hP : PS w ns l1 hl1 W) => put_ps hP x.row x.hgt (by omega) hw.1 hw.2.1 hw.2.2)
          clear hw
          go_wp2
          go_region_held3 (fun w' => w'.cell? ⟨wr.heap.size, 1, none⟩ = some (.string x.row.key) ∧ w'.cell? ⟨wr.heap.size, 2, none⟩ = some (.int .u64 x.row.seq) ∧ w'.cell? ⟨wr.heap.size, 3, none⟩ = some (.int .i64 x.row.kind) ∧ w'.cell? ⟨wr.heap.size, 4, none⟩ = some (.string x.row.val) ∧ w'.cell? ⟨wr.heap.size, 5, none⟩ = some (.int .i64 x.hgt))
            (first | go_keep | exact ⟨cell_of HOC.out 1, cell_of HOC.out 2, cell_of HOC.out 3, cell_of HOC.out 4, cell_of HOC.out 5⟩ | exact ⟨cell_of HOD.out 1, cell_of HOD.out 2, cell_of HOD.out 3, cell_of HOD.out 4, cell_of HOD.out 5⟩)
            (first
              | (go_at_call 9; refine (HPU2.out _ _ _ (by first | exact PB | exact P1.on (Below.refl _ _).drew)).mono ?_; rintro e3 w3 ⟨rfl, ⟨ns3, ha3, hb3, hc3, PA⟩, hk3⟩
                 have HOC := Lib.hid (hk3 _ _ _ (by first | exact HOD.out | exact HOB.out) (by decide) (by decide)))
              | (go_at_call 10; refine (HPR.out _ _ (by first | exact PA | exact P1.on (Below.refl _ _).drew)).mono ?_; rintro e4 w4 ⟨rfl, PB, hk4⟩
                 have HOD := Lib.hid (hk4 _ _ _ (by first | exact HOC.out | exact HOB.out) (by decide))))
          go_wp2
          go_meet
          exact ⟨rfl, ns3, by omega, by rw [ha3, hb3]; exact PB⟩
        · by_cases h2 : x.act = 2
          · obtain ⟨AS, cS, AT, cT, hbS, hRS, _, _, _⟩ := P1.ref
            have HBS := Lib.hid hbS
            have hsk := fun W (hW : Below w1.heap.size w1 W) => seek_any W _ 33 #[] ns x.row.key x.row.seq (P1.sl.below hW) (by omega)
            rw [HE.out] at hsk
            clear hw hbS
            cases hL : (rs ns)[e]? with
            | none =>
              rw [hL] at hsk
              simp only [seekV, zeroRow] at hsk
              have hge : (rs ns).length ≤ e := by simpa using hL
              have hd : decide (e < (rs ns).length) = false := by simp; omega
              have hd' : decide ((e : Int) < ((rs ns).length : Int)) = false := by simp; omega
              have HSK := Lib.hid hsk
              clear hsk hL
              go_wp2_with (first
                | (go_at_call 11; refine (HSK.out _ (Below.refl _ _)).mono ?_; rintro e5 w5 ⟨rfl, hb5⟩)
                | (refine wpList_store_new rfl 27 _ _ rfl 27 zeroRow zeroRow rfl rfl rfl Try.size27 zeroRow_one ?_; intro W6 hb6 hA6))
              have y0 : W6.cell? ⟨w5.heap.size, 0, none⟩ = some (.string ⟨#[]⟩) := cell_of hA6 0
              have y1 : W6.cell? ⟨w5.heap.size, 1, none⟩ = some (.int .u64 0) := cell_of hA6 1
              have y2 : W6.cell? ⟨w5.heap.size, 2, none⟩ = some (.int .i64 0) := cell_of hA6 2
              have y3 : W6.cell? ⟨w5.heap.size, 3, none⟩ = some (.string ⟨#[]⟩) := cell_of hA6 3
              have hb56 := below_step hb5 hb6 (Nat.le_refl _)
              have z0 : W6.cell? ⟨w.heap.size + 1, 0, none⟩ = some (.slice AS (rs ns).length cS) := cell_on hb56 (cell_of HBS.out 0)
              have P6 := P1.on hb56
              clear hA6
              go_quiet (fail)
              go_wp2
              go_meet
              exact ⟨rfl, ns, by omega, P6.on (below_drewN (Below.refl _ _) _)⟩
            | some r =>
              rw [hL] at hsk
              simp only [seekV, rowC] at hsk
              have hlt' : e < (rs ns).length := (List.getElem?_eq_some_iff.1 hL).1
              have hd : decide (e < (rs ns).length) = true := by simp; omega
              have hd' : decide ((e : Int) < ((rs ns).length : Int)) = true := by simp; omega
              have hi1 : (0 : Int) ≤ (e : Int) := by omega
              have hi2 : (e : Int) < ((rs ns).length : Int) := by omega
              obtain ⟨g2, o2, rfl, h0, h1', h2', h3'⟩ := hRS.at hL
              have HSK := Lib.hid hsk
              clear hsk hL
              go_wp2_with (first
                | (go_at_call 11; refine (HSK.out _ (Below.refl _ _)).mono ?_; rintro e5 w5 ⟨rfl, hb5⟩)
                | (refine wpList_store_new rfl 27 _ _ rfl 27 zeroRow (rowC r) rfl rfl rfl Try.size27 (rowC_one _) ?_; intro W6 hb6 hA6))
              have y0 : W6.cell? ⟨w5.heap.size, 0, none⟩ = some (.string r.key) := cell_of hA6 0
              have y1 : W6.cell? ⟨w5.heap.size, 1, none⟩ = some (.int .u64 r.seq) := cell_of hA6 1
              have y2 : W6.cell? ⟨w5.heap.size, 2, none⟩ = some (.int .i64 r.kind) := cell_of hA6 2
              have y3 : W6.cell? ⟨w5.heap.size, 3, none⟩ = some (.string r.val) := cell_of hA6 3
              have hb56 := below_step hb5 hb6 (Nat.le_refl _)
              have z0 : W6.cell? ⟨w.heap.size + 1, 0, none⟩ = some (.slice (some ⟨g2, o2, none⟩) (rs ns).length cS) := cell_on hb56 (cell_of HBS.out 0)
              have v0 := cell_on hb56 h0
              have v1 := cell_on hb56 h1'
              have v2 := cell_on hb56 h2'
              have v3 := cell_on hb56 h3'
              have P6 := P1.on hb56
              clear hA6
              go_quiet (fail)
              go_wp2
              go_meet
              exact ⟨rfl, ns, by omega, P6.on (below_drewN (Below.refl _ _) _)⟩
          · by_cases h3 : x.act = 3
            · -- how many rows are taken
              obtain ⟨AS, cS, AT, cT, hbS, hRS, _, _, _⟩ := P1.ref
              have hel : e ≤ (rs ns).length := by rw [← HE.out]; exact place_le _ _ _
              have hrl : (rs ns).length = ns.length := by simp [rs]
              have hcS : (rs ns).length ≤ cS := by
                obtain ⟨vR, vH, b1, b2, _⟩ := P1.own
                rw [hbS] at b1
                injection b1 with b1
                injection b1 with b1 _
                have e1 : vR = .slice AS (rs ns).length cS := by injection b1 with b1; injection b1 with b1 _; exact b1.symm
                subst e1
                rcases b2.2 with ⟨h1, h2⟩ | ⟨g, cap, cur, h1, _, _, h3, _⟩
                · injection h1 with _ h4 h5; omega
                · injection h1 with _ h4 h5; omega
              have HBS := Lib.hid hbS
              have hco := fun W (hW : Below w1.heap.size w1 W) => collect_any W _ 33 #[] ns x.row.key x.row.seq x.hgt (P1.sl.below hW) (by omega)
              rw [HE.out] at hco
              obtain ⟨L2, hL2⟩ : ∃ L2, takeM x.hgt ((rs ns).drop e) = L2 := ⟨_, rfl⟩
              rw [hL2] at hco
              have hL2t : L2 = ((rs ns).drop e).take L2.length := by
                rw [← hL2]; unfold takeM
                split
                · rename_i hc; rw [List.length_take, Nat.min_eq_left (by omega)]
                · exact (List.take_of_length_le (by simp)).symm
              have hL2n : L2.length = if 0 ≤ x.hgt ∧ x.hgt < ((rs ns).length - e : Nat) then x.hgt.toNat else (rs ns).length - e := by
                rw [← hL2]; unfold takeM
                rw [List.length_drop]
                split
                · rename_i hc; rw [List.length_take, List.length_drop]; omega
                · rw [List.length_drop]
              have hL2e : e + L2.length ≤ (rs ns).length := by rw [hL2n]; split <;> omega
              obtain ⟨m, hm⟩ : ∃ m, L2.length = m := ⟨_, rfl⟩
              rw [hm] at hL2t hL2n hL2e
              have HCO := Lib.hid hco
              have HL2T := Lib.hid hL2t
              have HL2N := Lib.hid hL2n
              have HM := Lib.hid hm
              clear hco hL2 hL2t hL2n hm hbS
              have HRL := Lib.hid hrl
              have hlb : (rs ns).length ≤ 150 := by omega
              have hmb : m ≤ 150 := by have := HL2N.out; omega
              have HR2 := Lib.hid (fun W (hW : Below w1.heap.size w1 W) => (show Rows_ W (AS.map fun x => x.add (e * 4)) L2 by rw [HL2T.out]; exact ((hRS.below hW).drop e).take m))
              clear hrl
              have z0 : w1.cell? ⟨w.heap.size + 1, 0, none⟩ = some (.slice AS (rs ns).length cS) := cell_of HBS.out 0
              go_upto_region 20 with fail
              clear h1 h2 h3
              go_cut [108] (fun s108 wx => ∃ b : Bool, s108 = .bool b ∧ (b = true → x.hgt = (m : Int)) ∧ (b = false → ((rs ns).length : Int) - (e : Int) = (m : Int)) ∧ w1 = wx)
              case first =>
                have hmn := HL2N.out
                by_cases hg0 : 0 ≤ x.hgt
                · by_cases hg1 : x.hgt < ((rs ns).length : Int) - (e : Int)
                  · have hxm : x.hgt = (m : Int) := by
                      rw [if_pos (by omega)] at hmn; omega
                    have hgd : decide (x.hgt < ((rs ns).length : Int) - (e : Int)) = true := decide_eq_true hg1
                    have hgd0 : decide (0 ≤ x.hgt) = true := decide_eq_true hg0
                    have HXM := Lib.hid hxm
                    clear hmn hw hxm
                    go_wp2
                    go_meet
                    exact ⟨true, rfl, fun _ => HXM.out, fun h => (by cases h), rfl⟩
                  · have hsm : ((rs ns).length : Int) - (e : Int) = (m : Int) := by
                      rw [if_neg (by omega)] at hmn; omega
                    have hgd : decide (x.hgt < ((rs ns).length : Int) - (e : Int)) = false := decide_eq_false hg1
                    have hgd0 : decide (0 ≤ x.hgt) = true := decide_eq_true hg0
                    have HSM := Lib.hid hsm
                    clear hmn hw hsm
                    go_wp2
                    go_meet
                    exact ⟨false, rfl, fun h => (by cases h), fun _ => HSM.out, rfl⟩
                · have hsm : ((rs ns).length : Int) - (e : Int) = (m : Int) := by
                    rw [if_neg (by omega)] at hmn; omega
                  have hgd0 : decide (0 ≤ x.hgt) = false := decide_eq_false hg0
                  have HSM := Lib.hid hsm
                  clear hmn hw hsm
                  go_wp2
                  go_meet
                  exact ⟨false, rfl, fun h => (by cases h), fun _ => HSM.out, rfl⟩
              case rest =>
                obtain ⟨b, rfl, hbt, hbf, rfl⟩ := hcut
                have HBT := Lib.hid hbt
                have HBF := Lib.hid hbf
                clear hbt hbf hw
                have hrl := HRL.out
                have hem : e + m ≤ cS := by omega
                have hem1 : (e : Int) ≤ (e : Int) + (m : Int) := by omega
                have hem2 : (e : Int) + (m : Int) ≤ (cS : Int) := by omega
                have hemb : (e : Int) + (m : Int) ≤ 9223372036854775807 := by omega
                clear hrl
                have hwrp : IntKind.i64.wrap ((e : Int) + (m : Int)) = (e : Int) + (m : Int) := by simp [IntKind.wrap, IntKind.bits, IntKind.signed, IntKind.min]; omega
                have hem3 : ¬ (cS : Int) < (e : Int) + (m : Int) := by omega
                have hem0 : (0 : Int) ≤ (e : Int) := by omega
                cases b with
                | true =>
                  rw [HBT.out rfl] at p5
                  have HC1 := HCO.out
                  rw [HBT.out rfl] at HC1
                  have HCO := Lib.hid HC1
                  clear HC1
                  go_upto_region 22 with fail
                  by_cases hce : cS = e
                  · have hm0 : m = 0 := by omega
                    have hwr0 : IntKind.i64.wrap (e : Int) = (e : Int) := by simp [IntKind.wrap, IntKind.bits, IntKind.signed, IntKind.min]; omega
                    subst hce
                    subst hm0
                    clear hwrp hem1 hem2 hem3 hemb
                    have hle : (rs ns).length ≤ cS := by omega
                    go_region_held3 (fun w' => w'.cell? ⟨wr.heap.size, 1, none⟩ = some (.string x.row.key) ∧ w'.cell? ⟨wr.heap.size, 2, none⟩ = some (.int .u64 x.row.seq) ∧ w'.cell? ⟨wr.heap.size, 5, none⟩ = some (.int .i64 0) ∧ w'.cell? ⟨w.heap.size + 1, 0, none⟩ = some (.slice AS (rs ns).length cS))
                      (first | go_keep | exact ⟨cell_on hb3 p1, cell_on hb3 p2, cell_on hb3 p5, cell_on hb3 z0⟩ | exact ⟨cell_on hb4 (cell_on hb3 p1), cell_on hb4 (cell_on hb3 p2), cell_on hb4 (cell_on hb3 p5), cell_on hb4 (cell_on hb3 z0)⟩)
                      (first
                        | (go_at_call 13; refine (HCO.out _ (by exact (Below.refl _ _).drew)).mono ?_; rintro e3 w3 ⟨v3, rfl, hr3, hb3⟩
                           obtain ⟨A3, c3, rfl, R3⟩ := rows_of_own hr3 rfl)
                        | (go_at_call 12; rw [HM.out]
                           refine (same_any w3 A3 AS c3 0 [] (.inl rfl) (.inl rfl) (by simp)).mono ?_; rintro e4 w4 ⟨rfl, hb4⟩))
                    go_wp2
                    go_meet
                    exact ⟨rfl, ns, by omega, P1.on (below_step (below_step (Below.refl _ _).drew hb3 (Nat.le_refl _)) hb4 (Nat.le_refl _))⟩
                  · have hce' : e < cS := by omega
                    go_region_held3 (fun w' => w'.cell? ⟨wr.heap.size, 1, none⟩ = some (.string x.row.key) ∧ w'.cell? ⟨wr.heap.size, 2, none⟩ = some (.int .u64 x.row.seq) ∧ w'.cell? ⟨wr.heap.size, 5, none⟩ = some (.int .i64 (m : Int)) ∧ w'.cell? ⟨w.heap.size + 1, 0, none⟩ = some (.slice AS (rs ns).length cS))
                      (first | go_keep | exact ⟨cell_on hb3 p1, cell_on hb3 p2, cell_on hb3 p5, cell_on hb3 z0⟩ | exact ⟨cell_on hb4 (cell_on hb3 p1), cell_on hb4 (cell_on hb3 p2), cell_on hb4 (cell_on hb3 p5), cell_on hb4 (cell_on hb3 z0)⟩)
                      (first
                        | (go_at_call 13; refine (HCO.out _ (by exact (Below.refl _ _).drew)).mono ?_; rintro e3 w3 ⟨v3, rfl, hr3, hb3⟩
                           obtain ⟨A3, c3, rfl, R3⟩ := rows_of_own hr3 rfl)
                        | (go_at_call 12; rw [show ((e : Int) + (m : Int)).toNat - e = L2.length by rw [HM.out]; omega]
                           refine (same_any w3 A3 _ c3 _ L2 R3 (HR2.out w3 (by exact below_step (Below.refl _ _).drew hb3 (Nat.le_refl _))) (by rw [HM.out]; omega)).mono ?_; rintro e4 w4 ⟨rfl, hb4⟩))
                    go_wp2
                    go_meet
                    exact ⟨rfl, ns, by omega, P1.on (below_step (below_step (Below.refl _ _).drew hb3 (Nat.le_refl _)) hb4 (Nat.le_refl _))⟩
                | false =>
                  have hsm := HBF.out rfl
                  go_upto_region 22 with fail
                  by_cases hce : cS = e
                  · have hm0 : m = 0 := by omega
                    have hwr0 : IntKind.i64.wrap (e : Int) = (e : Int) := by simp [IntKind.wrap, IntKind.bits, IntKind.signed, IntKind.min]; omega
                    subst hce
                    subst hm0
                    clear hwrp hem1 hem2 hem3 hemb
                    have hle : (rs ns).length ≤ cS := by omega
                    go_region_held3 (fun w' => w'.cell? ⟨wr.heap.size, 1, none⟩ = some (.string x.row.key) ∧ w'.cell? ⟨wr.heap.size, 2, none⟩ = some (.int .u64 x.row.seq) ∧ w'.cell? ⟨wr.heap.size, 5, none⟩ = some (.int .i64 x.hgt) ∧ w'.cell? ⟨w.heap.size + 1, 0, none⟩ = some (.slice AS (rs ns).length cS))
                      (first | go_keep | exact ⟨cell_on hb3 p1, cell_on hb3 p2, cell_on hb3 p5, cell_on hb3 z0⟩ | exact ⟨cell_on hb4 (cell_on hb3 p1), cell_on hb4 (cell_on hb3 p2), cell_on hb4 (cell_on hb3 p5), cell_on hb4 (cell_on hb3 z0)⟩)
                      (first
                        | (go_at_call 13; refine (HCO.out _ (by exact (Below.refl _ _).drew)).mono ?_; rintro e3 w3 ⟨v3, rfl, hr3, hb3⟩
                           obtain ⟨A3, c3, rfl, R3⟩ := rows_of_own hr3 rfl)
                        | (go_at_call 12; rw [HM.out]
                           refine (same_any w3 A3 AS c3 0 [] (.inl rfl) (.inl rfl) (by simp)).mono ?_; rintro e4 w4 ⟨rfl, hb4⟩))
                    go_wp2
                    go_meet
                    exact ⟨rfl, ns, by omega, P1.on (below_step (below_step (Below.refl _ _).drew hb3 (Nat.le_refl _)) hb4 (Nat.le_refl _))⟩
                  · have hce' : e < cS := by omega
                    go_region_held3 (fun w' => w'.cell? ⟨wr.heap.size, 1, none⟩ = some (.string x.row.key) ∧ w'.cell? ⟨wr.heap.size, 2, none⟩ = some (.int .u64 x.row.seq) ∧ w'.cell? ⟨wr.heap.size, 5, none⟩ = some (.int .i64 x.hgt) ∧ w'.cell? ⟨w.heap.size + 1, 0, none⟩ = some (.slice AS (rs ns).length cS))
                      (first | go_keep | exact ⟨cell_on hb3 p1, cell_on hb3 p2, cell_on hb3 p5, cell_on hb3 z0⟩ | exact ⟨cell_on hb4 (cell_on hb3 p1), cell_on hb4 (cell_on hb3 p2), cell_on hb4 (cell_on hb3 p5), cell_on hb4 (cell_on hb3 z0)⟩)
                      (first
                        | (go_at_call 13; refine (HCO.out _ (by exact (Below.refl _ _).drew)).mono ?_; rintro e3 w3 ⟨v3, rfl, hr3, hb3⟩
                           obtain ⟨A3, c3, rfl, R3⟩ := rows_of_own hr3 rfl)
                        | (go_at_call 12; rw [show ((e : Int) + (m : Int)).toNat - e = L2.length by rw [HM.out]; omega]
                           refine (same_any w3 A3 _ c3 _ L2 R3 (HR2.out w3 (by exact below_step (Below.refl _ _).drew hb3 (Nat.le_refl _))) (by rw [HM.out]; omega)).mono ?_; rintro e4 w4 ⟨rfl, hb4⟩))
                    go_wp2
                    go_meet
                    exact ⟨rfl, ns, by omega, P1.on (below_step (below_step (Below.refl _ _).drew hb3 (Nat.le_refl _)) hb4 (Nat.le_refl _))⟩
            · by_cases h4 : x.act = 4
              · obtain ⟨AS, cS, AT, cT, hbS, hRS, hIS, _, _⟩ := P1.ref
                have hHL : (hs ns).length = (rs ns).length := by simp [rs, hs]
                have h12 : ∀ y ∈ hs ns, y ≤ 12 := hs_le P1.sl.hgt
                have m0 : w1.cell? ⟨w.heap.size + 1, 0, none⟩ = some (.slice AS (rs ns).length cS) := cell_of hbS 0
                have m1 : w1.cell? ⟨w.heap.size + 1, 1, none⟩ = some (.slice AT (rs ns).length cT) := cell_of hbS 1
                have kk0 := cell_regrown m0
                have kk1 := cell_regrown m1
                have k0 := cell_regrown p0
                have k1 := cell_regrown p1
                have k2 := cell_regrown p2
                have cS1 : ∀ d os, Calls Try.prog 14 #[.pointer (some ⟨w.heap.size, 0, none⟩), .string x.row.key, .int .u64 x.row.seq] (Sort.grow (redrawn w1 d) os) fun e' w'' => e' = .returned (.int .i64 ((steps (hs ns) e 0 : Nat) : Int)) ∧ ∃ p : Regrown, w'' = Sort.grow (redrawn w1 p.d) p.os := fun d os => by
                  have := steps_any _ _ 33 #[] ns x.row.key x.row.seq (P1.sl.below (below_regrown w1 d os)) (by omega)
                  rw [HE.out] at this
                  exact Calls.regrown_of this
                have cS2 : ∀ d os, Calls Try.prog 15 #[.agg #[.slice AS (rs ns).length cS, .slice AT (rs ns).length cT], .string x.row.key, .int .u64 x.row.seq] (Sort.grow (redrawn w1 d) os) fun e' w'' => e' = .returned (.int .i64 ((steps (hs ns) e 0 : Nat) : Int)) ∧ ∃ p : Regrown, w'' = Sort.grow (redrawn w1 p.d) p.os := fun d os => by
                  have := stepsR_any (Sort.grow (redrawn w1 d) os) AT AS cT cS (hs ns) (rs ns) x.row.key x.row.seq (hIS.below (below_regrown w1 d os)) (hRS.below (below_regrown w1 d os)) hHL (by simp [hs]; omega) h12
                  rw [HE.out, hHL] at this
                  exact Calls.regrown_of this
                have hse : (steps (hs ns) e 0 == steps (hs ns) e 0) = true := by simp
                clear hw m0 m1 hHL h12 hbS
                go_wp2
                refine wp_region_quiet_below (by kernel_rfl) (by kernel_rfl) ?_
                repeat (go_big_quiet_step (first | exact cS1 _ _ | exact cS2 _ _))
                refine wpQuiet_nil ?_
                intro _ hw'
                obtain ⟨⟨dq, osq⟩, hw''⟩ := hw'
                subst hw''
                go_wp2
                go_meet
                exact ⟨rfl, ns, by omega, P1.on (below_regrown w1 dq osq)⟩
              · go_wp2
                go_meet
                exact ⟨rfl, ns, by omega, P1⟩
      case rest =>
        obtain ⟨rfl, ns2, hn2, P2⟩ := hcut
        obtain ⟨w2, rfl⟩ : ∃ w2, w2 = wc := ⟨_, rfl⟩
        obtain ⟨AS, cS, AT, cT, hbS, hRS, hIS, _, _⟩ := P2.ref
        have hHL : (rs ns2).length = ns2.length := by simp [rs]
        have h12 : ∀ y ∈ hs ns2, y ≤ 12 := hs_le P2.sl.hgt
        have m0 : w2.cell? ⟨w.heap.size + 1, 0, none⟩ = some (.slice AS (rs ns2).length cS) := cell_of hbS 0
        have m1 : w2.cell? ⟨w.heap.size + 1, 1, none⟩ = some (.slice AT (rs ns2).length cT) := cell_of hbS 1
        rw [hHL] at m0 m1
        have kk0 := cell_regrown m0
        have kk1 := cell_regrown m1
        have cS1 : ∀ d os, Calls Try.prog 16 #[.pointer (some ⟨w.heap.size, 0, none⟩)] (Sort.grow (redrawn w2 d) os) fun e' w'' => e' = .returned (.int .i64 (ns2.length : Int)) ∧ ∃ p : Regrown, w'' = Sort.grow (redrawn w2 p.d) p.os := fun d os =>
          Calls.regrown_of ((len_any _ _ 33 #[] ns2 (P2.sl.below (below_regrown w2 d os))).mono fun _ _ ⟨h1, h2⟩ => ⟨h1, by rw [h2]; exact Below.refl _ _⟩)
        have cS2 : ∀ d os, Calls Try.prog 17 #[.pointer (some ⟨w.heap.size, 0, none⟩)] (Sort.grow (redrawn w2 d) os) fun e' w'' => e' = .returned (.int .i64 (mxh ns2 : Int)) ∧ ∃ p : Regrown, w'' = Sort.grow (redrawn w2 p.d) p.os := fun d os =>
          Calls.regrown_of ((height_any _ _ 33 #[] ns2 (P2.sl.below (below_regrown w2 d os))).mono fun _ _ ⟨h1, h2⟩ => ⟨h1, by rw [h2]; exact Below.refl _ _⟩)
        have cS3 : ∀ d os, Calls Try.prog 18 #[.agg #[.slice AS ns2.length cS, .slice AT ns2.length cT]] (Sort.grow (redrawn w2 d) os) fun e' w'' => e' = .returned (.int .i64 (mxh ns2 : Int)) ∧ ∃ p : Regrown, w'' = Sort.grow (redrawn w2 p.d) p.os := fun d os => by
          have := heightR_any (Sort.grow (redrawn w2 d) os) AS AT ns2.length cS cT (hs ns2) (hIS.below (below_regrown w2 d os)) (by simp [hs]; omega) h12
          rw [show (hs ns2).length = ns2.length by simp [hs]] at this
          exact Calls.regrown_of this
        clear hw m0 m1 hHL h12 hbS
        go_wp2
        refine wp_region_quiet_below (by kernel_rfl) (by kernel_rfl) ?_
        repeat (go_big_quiet_step (first | exact cS1 _ _ | exact cS2 _ _ | exact cS3 _ _))
        refine wpQuiet_nil ?_
        intro _ hw'
        obtain ⟨⟨dq, osq⟩, hw''⟩ := hw'
        subst hw''
        go_wp2
        go_roundw
        case rel => exact ⟨k + 1, ns2, by omega, by go_num, by omega, P2.on (below_regrown w2 dq osq)⟩
        case measure => simp [intOf]; omega
    · obtain ⟨AS, cS, AT, cT, hbS, hRS, hIS, _, _⟩ := P.ref
      have m0 : wr.cell? ⟨w.heap.size + 1, 0, none⟩ = some (.slice AS (rs ns).length cS) := cell_of hbS 0
      have HWh := Lib.hid (fun W (hW : Below wr.heap.size wr W) => whole_any W _ 33 #[] ns (P.sl.below hW) (by omega))
      have HRS := Lib.hid (fun W (hW : Below wr.heap.size wr W) => hRS.below hW)
      have hrl : (rs ns).length ≤ 150 := by simp [rs]; omega
      clear hbS
      go_wp2
      go_region_held3 (fun w' => w'.cell? ⟨w.heap.size + 1, 0, none⟩ = some (.slice AS (rs ns).length cS))
        (first | go_keep | exact cell_on hb3 m0 | exact cell_on hb4 (cell_on hb3 m0) | exact cell_on hb5 (cell_on hb4 (cell_on hb3 m0)))
        (first
          | (go_at_call 19; refine (HWh.out _ (by exact (Below.refl _ _).drew)).mono ?_; rintro e3 w3 ⟨v3, rfl, hr3, hb3⟩
             obtain ⟨A3, c3, rfl, R3⟩ := rows_of_own hr3 rfl)
          | (go_at_call 12; refine (same_any w3 A3 AS c3 cS (rs ns) R3 (HRS.out _ (by exact below_step (Below.refl _ _).drew hb3 (Nat.le_refl _))) (by omega)).mono ?_; rintro e4 w4 ⟨rfl, hb4⟩)
          | (go_at_call 7; refine (awake_any _).mono ?_; rintro e5 w5 ⟨rfl, hb5⟩))
      go_wp2
      go_ret
      exact ⟨rfl, below_step (below_step (below_step P.below.drew hb3 (Nat.le_refl _)) hb4 (Nat.le_refl _)) hb5 (Nat.le_refl _)⟩
end Go.Proofs.Ythhdameaihclmaa
