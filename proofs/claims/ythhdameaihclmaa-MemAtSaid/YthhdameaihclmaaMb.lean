/- Add of package mem: the rows of a batch are taken. Conditions: that the batch may be, and that its numbers are new. -/
import Derived.Test.YthhdameaihclmaaMa
import Derived.StillTailTactics
import Derived.BigRegion
namespace Go.Proofs.Ythhdameaihclmaa
open Go.RowKit Sk


/-- The second loop's state: m rows are taken, the table's own cells are those of sx. -/
structure AddK (w : World) (B : Nat) (sx : St) (ns : List Nd) (L : List Rw) (n₀ : Nat) (v : Value) (m : Nat) (nsK : List Nd) (wr : World) : Prop where
  tb : TB wr B sx nsK
  perm : (rs nsK).Perm (rs ns ++ L.take m)
  grew : Grew w B ns nsK
  off : Off (blks B ns) w wr
  own : wr.ownsRow n₀ 27 4 v L.length (flat L)
def AddI (w : World) (B : Nat) (st : St) (ns : List Nd) (L : List Rw) (n₀ : Nat) (v : Value) (k : Nat) (nsK : List Nd) (wr : World) : Prop := AddK w B ((L.take k).foldl stI st) ns L n₀ v k nsK wr
def AddJ (w : World) (B : Nat) (st : St) (ns : List Nd) (L : List Rw) (n₀ : Nat) (v : Value) (k : Nat) (nsK : List Nd) (wr : World) : Prop := AddK w B ((L.take k).foldl stI st) ns L n₀ v (k + 1) nsK wr
theorem AddK.on {w wr W : World} {B n₀ : Nat} {sx : St} {ns nsK : List Nd} {L : List Rw} {v : Value} {k : Nat} (h : AddK w B sx ns L n₀ v k nsK wr) (hb : Below wr.heap.size wr W) : AddK w B sx ns L n₀ v k nsK W :=
  ⟨SL.below h.tb hb, h.perm, h.grew, h.off.trans (Off.of_below hb), own_below h.own hb⟩
theorem AddK.setAt {w wr : World} {B n₀ : Nat} {sx sy : St} {ns nsK : List Nd} {L : List Rw} {v : Value} {k : Nat} (h : AddK w B sx ns L n₀ v k nsK wr) (i : Nat) (x : Value) (hr : (stR sx).setIfInBounds i x = stR sy) :
    AddK w B sy ns L n₀ v k nsK (wr.setCell ⟨B, 18 + i, none⟩ x) := by
  have ho : Off (blks B ns) wr (wr.setCell ⟨B, 18 + i, none⟩ x) := (Off.of_below (Below.refl wr.heap.size wr)).setCell (p := ⟨B, 18 + i, none⟩) (.inl (.inl rfl)) x
  have ho2 : Off (blks B nsK) wr (wr.setCell ⟨B, 18 + i, none⟩ x) := (Off.of_below (Below.refl wr.heap.size wr)).setCell (p := ⟨B, 18 + i, none⟩) (.inl (.inl rfl)) x
  refine ⟨?_, h.perm, h.grew, h.off.trans ho, own_off h.own ho2 fun g hg => ?_⟩
  · have := SL.setRest h.tb i x
    rw [hr] at this
    exact this
  · obtain ⟨cur, hc⟩ := own_at h.own g hg
    exact SL.typ' h.tb hc (by decide) (by decide)
theorem AddK.box {w wr : World} {B n₀ : Nat} {sx : St} {ns nsK : List Nd} {L : List Rw} {v : Value} {k : Nat} (h : AddK w B sx ns L n₀ v k nsK wr) (i : Nat) (x : Value) {b : Nat} {cs : Array Value} (hb : wr.heap[b]? = some (.cells cs 27 (0, 0))) :
    (wr.setCell ⟨B, 18 + i, none⟩ x).heap[b]? = some (.cells cs 27 (0, 0)) :=
  (Below.heap_setCell wr _ _ b (fun e => SL.typ' h.tb hb (by decide) (by decide) (.inl e))).trans hb
theorem AddI.start {w wr : World} {B n₀ : Nat} {st : St} {ns : List Nd} {L : List Rw} {v : Value} (h : TB w B st ns) (hb : Below w.heap.size w wr) (ho : wr.ownsRow n₀ 27 4 v L.length (flat L)) : AddI w B st ns L n₀ v 0 ns wr :=
  ⟨SL.below h hb, by simp, fun b hb => .inl hb, Off.of_below hb, ho⟩
/-- What is known of the batch's rows, and of the table's size. -/
def AddN (ns : List Nd) (st : St) (L : List Rw) : Prop :=
  Apart L ∧ (∀ r ∈ rs ns, ∀ x ∈ L, r.seq ≠ x.seq) ∧ (∀ x ∈ L, 0 ≤ x.seq ∧ x.seq ≤ 18446744073709551615 ∧ x.key.size ≤ 520 ∧ x.val.size ≤ 2048) ∧ L.length ≤ 64 ∧ ns.length ≤ 4294960000 ∧ 0 ≤ st.room ∧ st.room ≤ 1152921504606846976
theorem take_snoc' {α : Type} {l : List α} {j : Nat} {x : α} (h : l[j]? = some x) : l.take (j + 1) = l.take j ++ [x] := by
  obtain ⟨h1, rfl⟩ := List.getElem?_eq_some_iff.1 h
  rw [List.take_append_getElem]
theorem stI_eq (st : St) (x : Rw) (lz : Int) (h : (if st.least = 0 then x.seq else st.least) = lz) :
    stI st x = ⟨st.room + ((x.key.size : Int) + (x.val.size : Int) + 16), (if x.seq < lz then x.seq else lz), (if st.greatest < x.seq then x.seq else st.greatest)⟩ := by
  subst h
  unfold stI
  have e1 : ∀ a b : Int, min a b = if b < a then b else a := fun a b => by split <;> omega
  have e2 : ∀ a b : Int, max a b = if a < b then b else a := fun a b => by split <;> omega
  rw [e1, e2]
theorem room_take {ns : List Nd} {st : St} {L : List Rw} (h : AddN ns st L) (j : Nat) : 0 ≤ ((L.take j).foldl stI st).room ∧ ((L.take j).foldl stI st).room ≤ 1152921504606846976 + 64 * 2584 := by
  obtain ⟨-, -, n3, n4, -, n6, n7⟩ := h
  have key : ∀ (l : List Rw) (st : St), (∀ x ∈ l, x ∈ L) → 0 ≤ st.room → st.room ≤ (l.foldl stI st).room ∧ (l.foldl stI st).room ≤ st.room + l.length * 2584 := by
    intro l
    induction l with
    | nil => intro st _ h0; simp
    | cons x l ih =>
      intro st hm h0
      have hx := n3 x (hm x (by simp))
      have := ih (stI st x) (fun y hy => hm y (by simp [hy])) (by simp only [stI]; omega)
      simp only [List.foldl_cons, List.length_cons, stI] at this ⊢
      omega
  have := key (L.take j) st (fun x hx => List.mem_of_mem_take hx) n6
  have hl : (L.take j).length ≤ 64 := by rw [List.length_take]; omega
  omega
theorem AddI.put {w W : World} {B n₀ : Nat} {st : St} {ns nsK : List Nd} {L : List Rw} {v : Value} {k : Nat} (h : AddI w B st ns L n₀ v k nsK W) (x : Rw) (hgt : Int) (hx : L[k]? = some x) (hn : AddN ns st L)
    (hg : -9223372036854775808 ≤ hgt ∧ hgt ≤ 9223372036854775807) :
    Calls Try.prog 9 #[.pointer (some ⟨B, 0, none⟩), .agg #[.string x.key, .int .u64 x.seq, .int .i64 x.kind, .string x.val], .int .i64 hgt] W fun e W' =>
      e = .returned (.bool true) ∧ ∃ ns', AddJ w B st ns L n₀ v k ns' W' ∧ ∀ (b : Nat) (cs : Array Value), W.heap[b]? = some (.cells cs 27 (0, 0)) → W'.heap[b]? = some (.cells cs 27 (0, 0)) := by
  obtain ⟨n1, n2, n3, n4, n5, n6, n7⟩ := hn
  have hkl : k < L.length := (List.getElem?_eq_some_iff.1 hx).1
  have hxm := List.mem_of_getElem? hx
  have hl1 : nsK.length = ns.length + k := by
    have := h.perm.length_eq
    simp only [rs, List.length_append, List.length_map, List.length_take] at this
    omega
  have hnot : ∀ n, nsK[place (rs nsK) x.key x.seq]? = some n → at_ n.row x.key x.seq = false := fun n hq => by
    have hm : n.row ∈ rs nsK := List.mem_map.2 ⟨n, List.mem_of_getElem? hq, rfl⟩
    have hne : n.row.seq ≠ x.seq := by
      rcases List.mem_append.1 (h.perm.mem_iff.1 hm) with hm | hm
      · exact n2 _ hm x hxm
      · obtain ⟨i, hi⟩ := List.getElem?_of_mem hm
        rw [List.getElem?_take] at hi
        split at hi
        · rename_i hik
          obtain ⟨a1, a2⟩ := List.getElem?_eq_some_iff.1 hi
          obtain ⟨b1, b2⟩ := List.getElem?_eq_some_iff.1 hx
          have := List.pairwise_iff_getElem.1 n1 i k a1 b1 hik
          rw [a2, b2] at this
          exact this
        · cases hi
    simp [at_, hne]
  have hpl : place (rs nsK) x.key x.seq ≤ nsK.length := by have := place_le (rs nsK) x.key x.seq; simpa [rs] using this
  have hsx := n3 x hxm
  refine (put_new W B 85 _ nsK x hgt h.tb (by omega) hnot ⟨hsx.1, hsx.2.1⟩ hg.1 hg.2).mono ?_
  rintro e W' ⟨rfl, g, hg1, hsl, hoff⟩
  have hk : ∀ (b : Nat) (cs : Array Value), W.heap[b]? = some (.cells cs 27 (0, 0)) → W'.heap[b]? = some (.cells cs 27 (0, 0)) := fun b cs hb =>
    (hoff.block b (Array.getElem?_eq_some_iff.1 hb).1 (SL.typ' h.tb hb (by decide) (by decide))).trans hb
  refine ⟨rfl, _, ⟨hsl, ?_, ?_, h.off.step h.grew hoff, ?_⟩, hk⟩
  · rw [rs_ins, take_snoc' hx, ← List.append_assoc]
    exact (ins_perm _ _ _).trans (List.Perm.append_right _ h.perm)
  · intro b hb
    rcases blks_ins hb with rfl | hb
    · exact .inr (Nat.le_trans h.off.size hg1)
    · exact h.grew b hb
  · refine own_off h.own hoff fun g hg => ?_
    obtain ⟨cur, hc⟩ := own_at h.own g hg
    exact SL.typ' h.tb hc (by decide) (by decide)
theorem addN_of {ns : List Nd} {st : St} {L : List Rw} {s : Int} {l : List Wr} (hL : rowsOf s l = L) (hok : okB s l = true) (hfresh : ∀ r ∈ rs ns, ∀ x ∈ rowsOf s l, r.seq ≠ x.seq) (hlen : ns.length ≤ 4294960000)
    (hr1 : 0 ≤ st.room) (hr2 : st.room ≤ 1152921504606846976) : AddN ns st L := by
  subst hL
  obtain ⟨-, h1, h2, hbad, h64, hlong⟩ := (okB_iff s l).1 hok
  refine ⟨rowsOf_apart _ _, hfresh, fun x hx => ?_, by rw [rowsOf_len]; exact h64, hlen, hr1, hr2⟩
  have hs := rowsOf_seq hx
  obtain ⟨k, hk⟩ := List.getElem?_of_mem hx
  rw [rowsOf_get] at hk
  cases hw : l[k]? with
  | none => rw [hw] at hk; cases hk
  | some y =>
    rw [hw] at hk
    injection hk with hk
    subst hk
    have hg := hlong y (List.mem_of_getElem? hw)
    simp only [longW, Bool.or_eq_false_iff, decide_eq_false_iff_not] at hg
    simp only [rowOf] at hs ⊢
    omega
set_option maxRecDepth 100000 in
set_option maxHeartbeats 4000000 in
theorem add_any (w : World) (B : Nat) (st : St) (ns : List Nd) (A : Option Addr) (c : Nat) (s : Int) (l : List Wr) (AH : Option Addr) (cH : Nat) (hl : List Int)
    (h : TB w B st ns) (hlen : ns.length ≤ 4294960000) (hW : Wrs w A l) (hok : okB s l = true)
    (hfresh : ∀ r ∈ rs ns, ∀ x ∈ rowsOf s l, r.seq ≠ x.seq)
    (hH : ∀ W, Off (blks B ns) w W → Ints_ W AH hl) (hH1 : ∀ x ∈ hl, -9223372036854775808 ≤ x ∧ x ≤ 9223372036854775807) (hH2 : hl.length ≤ 4294967296)
    (hr1 : 0 ≤ st.room) (hr2 : st.room ≤ 1152921504606846976) :
    Calls Try.prog 24 #[.pointer (some ⟨B, 0, none⟩), .agg #[.int .u64 s, .slice A l.length c], .slice AH hl.length cH] w fun e w' => e = .returned (.int .i64 0) ∧
      ∃ ns', TB w' B ((rowsOf s l).foldl stI st) ns' ∧ (rs ns').Perm (rs ns ++ rowsOf s l) ∧ Grew w B ns ns' ∧ Off (blks B ns) w w' := by
  have HO := Lib.hid (heap_alloc_new w (.cells #[.int .u64 s, .slice A l.length c] 59))
  have HB0 := Lib.hid ((Below.refl w.heap.size w).alloc (Nat.le_refl _) (.cells #[.int .u64 s, .slice A l.length c] 59))
  have HN := Lib.hid (fun W (hW : Below w.heap.size w W) => none_any W B _ _ _ ns (SL.below h hW))
  have HCK := Lib.hid (fun W (hb : Below w.heap.size w W) => ckB_any W A c s l (hW.below hb) hok)
  have HBR := Lib.hid (fun W (hb : Below w.heap.size w W) => brows_any W A c s l (hW.below hb) hok)
  obtain ⟨L, hL⟩ : ∃ L, rowsOf s l = L := ⟨_, rfl⟩
  have HL := Lib.hid hL
  have HOK := Lib.hid hok
  have HFR := Lib.hid hfresh
  have HNB := Lib.hid (show AddN ns st L from addN_of hL hok hfresh hlen hr1 hr2)
  have HH := Lib.hid hH
  have HH1 := Lib.hid hH1
  have HT := Lib.hid h
  clear hL hfresh hok hW h hH hH1
  go_enter Try.func24, Try.ntmps24
  go_upto_region 8 with (first
    | (go_at_call 38; refine (HN.out _ HB0.out).mono ?_; rintro e1 w1 ⟨rfl, rfl⟩
       have c0 := cell_of HO.out 0
       have c1 := cell_of HO.out 1)
    | (go_at_call 39; refine (HCK.out _ HB0.out).mono ?_; rintro e2 w2 ⟨rfl, hb2⟩
       have HB2 := Lib.hid (below_step HB0.out hb2 (Nat.le_refl _))
       have d0 : w2.cell? ⟨w.heap.size, 0, none⟩ = some (.int .u64 s) := cell_of (heap_on hb2 HO.out) 0
       have d1 : w2.cell? ⟨w.heap.size, 1, none⟩ = some (.slice A l.length c) := cell_of (heap_on hb2 HO.out) 1
       clear hb2)
    | (go_at_call 40; refine (HBR.out _ HB2.out).mono ?_; rintro e3 w3 ⟨v3, rfl, hr3, hb3⟩))
  obtain ⟨A3, c3, rfl, R3⟩ := rows_of_own hr3 rfl
  have hLl : L.length ≤ 4294967296 := by rw [← HL.out, rowsOf_len]; exact Nat.le_trans ((okB_iff s l).1 HOK.out).2.2.2.2.1 (by decide)
  have HB3 := Lib.hid (below_step HB2.out hb3 (Nat.le_refl _))
  rw [HL.out] at R3 hr3 ⊢
  have HR3 := Lib.hid hr3
  clear hr3 hb3 c0 c1 d0 d1
  go_wp2
  go_loopw [33] (fun v wr => ∃ k : Nat, k ≤ L.length ∧ v = .int .i64 k ∧ Below w.heap.size w wr ∧ Below w3.heap.size w3 wr) (fun v _ => L.length - (intOf v).toNat)
  case atStart => exact ⟨0, Nat.zero_le _, rfl, HB3.out, Below.refl _ _⟩
  case round =>
    obtain ⟨k, hk, rfl, hb, hb3⟩ := hrel
    by_cases hlt : k < L.length
    · have hq : L[k]? = some L[k] := List.getElem?_eq_getElem hlt
      have hmem : L[k] ∈ L := List.getElem_mem _
      obtain ⟨g, o, rfl, x0, x1, x2, x3⟩ := (R3.below hb3).at hq
      obtain ⟨x, hx⟩ : ∃ x, L[k] = x := ⟨_, rfl⟩
      rw [hx] at x0 x1 x2 x3 hmem
      have HFX := Lib.hid (fun r hr => HFR.out r hr x (by rw [HL.out]; exact hmem))
      have HS := Lib.hid (fun W (hW : Below w.heap.size w W) => seek_any W B 85 _ ns x.key x.seq (SL.below HT.out hW) (by omega))
      clear hq hx hmem
      cases hL2 : (rs ns)[place (rs ns) x.key x.seq]? with
      | none =>
        rw [hL2] at HS
        simp only [seekV, zeroRow] at HS
        clear hL2
        go_upto_region 12 with (first
          | (refine wpList_store_new rfl 27 _ _ rfl 27 zeroRow (rowC x) rfl rfl rfl Try.size27 (rowC_one _) ?_; intro W0 hb0 hO0
             have y0 : W0.cell? ⟨wr.heap.size, 0, none⟩ = some (.string x.key) := cell_of hO0 0
             have y1 : W0.cell? ⟨wr.heap.size, 1, none⟩ = some (.int .u64 x.seq) := cell_of hO0 1
             have HW0 := Lib.hid (below_step hb hb0 (Nat.le_refl _)))
          | (go_at_call 11; refine (HS.out _ HW0.out).mono ?_; rintro e4 w4 ⟨rfl, hb4⟩))
        have HW4 := Lib.hid (below_step (below_step hb hb0 (Nat.le_refl _)) hb4 (Nat.le_refl _))
        have HW3 := Lib.hid (below_step (below_step hb3 hb0 (Nat.le_refl _)) hb4 (Nat.le_refl _))
        go_wp2
        go_roundw
        case rel => exact ⟨k + 1, by omega, by go_num, HW4.out.alloc (HW4.out.size) _, HW3.out.alloc (HW3.out.size) _⟩
        case measure => simp [intOf]; omega
      | some r =>
        have hrf : r.seq ≠ x.seq := HFX.out r (List.mem_of_getElem? hL2)
        have hsq : (r.seq == x.seq) = false := beq_eq_false_iff_ne.2 hrf
        rw [hL2] at HS
        simp only [seekV, rowC] at HS
        clear hL2 hrf
        go_upto_region 12 with (first
          | (refine wpList_store_new rfl 27 _ _ rfl 27 zeroRow (rowC x) rfl rfl rfl Try.size27 (rowC_one _) ?_; intro W0 hb0 hO0
             have y0 : W0.cell? ⟨wr.heap.size, 0, none⟩ = some (.string x.key) := cell_of hO0 0
             have y1 : W0.cell? ⟨wr.heap.size, 1, none⟩ = some (.int .u64 x.seq) := cell_of hO0 1
             have HW0 := Lib.hid (below_step hb hb0 (Nat.le_refl _)))
          | (go_at_call 11; refine (HS.out _ HW0.out).mono ?_; rintro e4 w4 ⟨rfl, hb4⟩)
          | (refine wpList_store_new rfl 27 _ _ rfl 27 zeroRow (rowC r) rfl rfl rfl Try.size27 (rowC_one _) ?_; intro W5 hb5 hO5))
        have z0 : W5.cell? ⟨wr.heap.size, 0, none⟩ = some (.string x.key) := cell_on hb5 (cell_on hb4 y0)
        have z1 : W5.cell? ⟨wr.heap.size, 1, none⟩ = some (.int .u64 x.seq) := cell_on hb5 (cell_on hb4 y1)
        have u0 : W5.cell? ⟨w4.heap.size, 0, none⟩ = some (.string r.key) := cell_of hO5 0
        have u1 : W5.cell? ⟨w4.heap.size, 1, none⟩ = some (.int .u64 r.seq) := cell_of hO5 1
        have HW4 := Lib.hid (below_step (below_step (below_step hb hb0 (Nat.le_refl _)) hb4 (Nat.le_refl _)) hb5 (Nat.le_refl _))
        have HW3 := Lib.hid (below_step (below_step (below_step hb3 hb0 (Nat.le_refl _)) hb4 (Nat.le_refl _)) hb5 (Nat.le_refl _))
        clear y0 y1 x0 x1 x2 x3 hO5 hO0
        cases hk : (r.key.toList == x.key.toList) with
        | true =>
          go_wp2
          go_roundw
          case rel => exact ⟨k + 1, by omega, by go_num, HW4.out, HW3.out⟩
          case measure => simp [intOf]; omega
        | false =>
          go_wp2
          go_roundw
          case rel => exact ⟨k + 1, by omega, by go_num, HW4.out, HW3.out⟩
          case measure => simp [intOf]; omega
    · obtain rfl : k = L.length := by omega
      have HBw := Lib.hid hb
      have HB4 := Lib.hid hb3
      clear hb hb3
      go_wp2
      go_loopw [64] (fun v wx => ∃ (j : Nat) (nsK : List Nd), j ≤ L.length ∧ v = .int .i64 j ∧ AddI w B st ns L w2.heap.size (.slice A3 L.length c3) j nsK wx) (fun v _ => L.length - (intOf v).toNat)
      case atStart => exact ⟨0, ns, Nat.zero_le _, rfl, AddI.start HT.out HBw.out (own_below HR3.out HB4.out)⟩
      case round =>
        obtain ⟨j, nsK, hj, rfl, hI⟩ := hrel
        by_cases hlt2 : j < L.length
        · obtain ⟨x, hx⟩ : ∃ x, L[j]? = some x := ⟨_, List.getElem?_eq_getElem hlt2⟩
          obtain ⟨A4, c4, e4, R4⟩ := rows_of_own hI.own rfl
          injection e4 with e41 _ e42
          obtain ⟨g, o, e5, x0, x1, x2, x3⟩ := R4.at hx
          subst e42
          subst e41
          obtain rfl := e5
          have HX := Lib.hid hx
          have HI := Lib.hid hI
          clear hx hI R4
          go_upto_region 19 with (first
          | (refine wpList_store_new rfl 27 _ _ rfl 27 zeroRow (rowC x) rfl rfl rfl Try.size27 (rowC_one _) ?_; intro W0 hb0 hO0))
          have y0 : W0.cell? ⟨wr.heap.size, 0, none⟩ = some (.string x.key) := cell_of hO0 0
          have y1 : W0.cell? ⟨wr.heap.size, 1, none⟩ = some (.int .u64 x.seq) := cell_of hO0 1
          have y2 : W0.cell? ⟨wr.heap.size, 2, none⟩ = some (.int .i64 x.kind) := cell_of hO0 2
          have y3 : W0.cell? ⟨wr.heap.size, 3, none⟩ = some (.string x.val) := cell_of hO0 3
          have hIn := HH.out W0 (HI.out.off.trans (Off.of_below hb0))
          have HI0 := Lib.hid (AddK.on HI.out hb0)
          have HO0 := Lib.hid hO0
          clear hO0 hb0 x0 x1 x2 x3
          go_upto_if 72 with (fail)
          go_cut [16] (fun s16 wx => ∃ hgt : Int, s16 = .int .i64 hgt ∧ (-9223372036854775808 ≤ hgt ∧ hgt ≤ 9223372036854775807) ∧ W0 = wx)
          case first =>
            clear y0 y1 y2 y3
            by_cases hh : j < hl.length
            · have hq : hl[j]? = some hl[j] := List.getElem?_eq_getElem hh
              have hm := HH1.out hl[j] (List.getElem_mem _)
              obtain ⟨z, hz⟩ : ∃ z, hl[j] = z := ⟨_, rfl⟩
              rw [hz] at hq hm
              rcases hIn with hIn | ⟨g2, o2, e2, hIn⟩
              · subst hIn; simp at hh
              · obtain rfl := e2
                have hc := hIn j z hq
                have HM := Lib.hid hm
                clear hIn hm hq hz
                go_wp2
                go_meet
                exact ⟨z, rfl, HM.out, rfl⟩
            · clear hIn
              go_wp2
              go_meet
              exact ⟨1, rfl, by decide, rfl⟩
          case rest =>
            obtain ⟨hgt, rfl, hg, rfl⟩ := hcut
            have HIn := Lib.hid hIn
            clear hIn
            go_upto_region 21 with fail
            have HI1 := Lib.hid (AddK.on HI0.out ((Below.refl _ _).drew))
            have HO1 := Lib.hid (heap_on ((Below.refl _ _).drew) HO0.out)
            have HP := Lib.hid (AddI.put HI1.out x hgt HX.out HNB.out hg)
            go_still_tail 6, (by kernel_rfl)
            change wpList _ _ _ _ _ W0.drew
            generalize W0.drew = W1 at *
            clear y0 y1 y2 y3
            go_wp2_with fail
            refine HP.out.mono ?_
            rintro e5 W2 ⟨rfl, ns', hI2, hk2⟩
            have HO2 := Lib.hid (hk2 _ _ HO1.out)
            have HI2 := Lib.hid hI2
            clear hI2 hk2
            have y0 : W2.cell? ⟨wr.heap.size, 0, none⟩ = some (.string x.key) := cell_of HO2.out 0
            have y1 : W2.cell? ⟨wr.heap.size, 1, none⟩ = some (.int .u64 x.seq) := cell_of HO2.out 1
            have y3 : W2.cell? ⟨wr.heap.size, 3, none⟩ = some (.string x.val) := cell_of HO2.out 3
            obtain ⟨⟨-, t1, t2, t3⟩, f1, f2, f3⟩ := TB.cells HI2.out.tb
            obtain ⟨stK, hst⟩ : ∃ stK, (L.take j).foldl stI st = stK := ⟨_, rfl⟩
            rw [hst] at t1 t2 t3
            have HST := Lib.hid hst
            clear hst
            have hrm := room_take HNB.out j
            rw [HST.out] at hrm
            have hxk := HNB.out.2.2.1 x (List.mem_of_getElem? HX.out)
            have w1 : IntKind.i64.wrap ((x.key.size : Int) + (x.val.size : Int)) = (x.key.size : Int) + (x.val.size : Int) := by simp [IntKind.wrap, IntKind.bits, IntKind.signed]; omega
            have w2 : IntKind.i64.wrap ((x.key.size : Int) + (x.val.size : Int) + 16) = (x.key.size : Int) + (x.val.size : Int) + 16 := by simp [IntKind.wrap, IntKind.bits, IntKind.signed]; omega
            have w3 : IntKind.i64.wrap (stK.room + ((x.key.size : Int) + (x.val.size : Int) + 16)) = stK.room + ((x.key.size : Int) + (x.val.size : Int) + 16) := by simp [IntKind.wrap, IntKind.bits, IntKind.signed]; omega
            clear hrm hxk
            go_upto_region 22 with fail
            go_still_tail 15, (by kernel_rfl)
            change wpList _ _ _ _ _ W2.drew
            have HI3 := Lib.hid (AddK.on HI2.out ((Below.refl _ _).drew))
            have HO3 := Lib.hid (heap_on ((Below.refl _ _).drew) HO2.out)
            have t1' : W2.drew.cell? ⟨B, 19, none⟩ = some (.int .i64 stK.room) := t1
            have f1' : W2.drew.frozen? ⟨B, 19, none⟩ = false := f1
            clear t1 t2 t3 f1 f2 f3 y0 y1 y3 w1 w2 w3
            generalize W2.drew = W3 at *
            have HI4 := Lib.hid (AddK.setAt (sx := stK) (sy := ⟨stK.room + ((x.key.size : Int) + (x.val.size : Int) + 16), stK.least, stK.greatest⟩) (by have h := HI3.out; unfold AddJ at h; rw [HST.out] at h; exact h) 1 (.int .i64 (stK.room + ((x.key.size : Int) + (x.val.size : Int) + 16))) rfl)
            have HO4 := Lib.hid (AddK.box HI3.out 1 (.int .i64 (stK.room + ((x.key.size : Int) + (x.val.size : Int) + 16))) HO3.out)
            go_upto_region 23 with fail
            clear t1' f1'
            simp only [Nat.reduceAdd] at HI4 HO4
            generalize W3.setCell ⟨B, 19, none⟩ (.int .i64 (stK.room + ((x.key.size : Int) + (x.val.size : Int) + 16))) = W4 at *
            obtain ⟨⟨-, -, t2, t3⟩, -, f2, f3⟩ := TB.cells HI4.out.tb
            have y1 : W4.cell? ⟨wr.heap.size, 1, none⟩ = some (.int .u64 x.seq) := cell_of HO4.out 1
            simp only at t2 t3
            obtain ⟨lz, hlz⟩ : ∃ lz, (if stK.least = 0 then x.seq else stK.least) = lz := ⟨_, rfl⟩
            have HLZ := Lib.hid hlz
            clear hlz
            go_upto_if 103 with (fail)
            go_cut [] (fun wx => AddK w B ⟨stK.room + ((x.key.size : Int) + (x.val.size : Int) + 16), lz, stK.greatest⟩ ns L w2.heap.size (.slice (some ⟨g, o, none⟩) L.length c3) (j + 1) ns' wx ∧ wx.heap[wr.heap.size]? = some (.cells (rowC x) 27 (0, 0)))
            case first =>
              by_cases hz : stK.least = 0
              · have hzb : (stK.least == 0) = true := beq_iff_eq.2 hz
                have HI5 := Lib.hid (AddK.setAt (sy := ⟨stK.room + ((x.key.size : Int) + (x.val.size : Int) + 16), x.seq, stK.greatest⟩) HI4.out 2 (.int .u64 x.seq) rfl)
                have HO5 := Lib.hid (AddK.box HI4.out 2 (.int .u64 x.seq) HO4.out)
                have HLE := Lib.hid (show x.seq = lz by rw [← HLZ.out, if_pos hz])
                clear hz
                go_wp2
                go_meet
                exact ⟨by rw [← HLE.out]; exact HI5.out, HO5.out⟩
              · have hzb : (stK.least == 0) = false := beq_eq_false_iff_ne.2 hz
                have HLE := Lib.hid (show stK.least = lz by rw [← HLZ.out, if_neg hz])
                clear hz
                go_wp2
                go_meet
                exact ⟨by rw [← HLE.out]; exact HI4.out, HO4.out⟩
            case rest =>
              obtain ⟨hI5, hO5⟩ := hcut
              obtain ⟨W5, rfl⟩ : ∃ W5, W5 = wc := ⟨_, rfl⟩
              obtain ⟨⟨-, -, t2, t3⟩, -, f2, f3⟩ := TB.cells hI5.tb
              have y1 : W5.cell? ⟨wr.heap.size, 1, none⟩ = some (.int .u64 x.seq) := cell_of hO5 1
              have hne : ¬ wr.heap.size = B := fun e => SL.typ' hI5.tb hO5 (by decide) (by decide) (.inl e)
              have hne2 : ¬ B = wr.heap.size := fun e => hne e.symm
              simp only at t2 t3
              have HI5 := Lib.hid hI5
              have HO5 := Lib.hid hO5
              clear hI5 hO5
              go_upto_region 25 with fail
              go_region
              go_wp2
              go_roundw
              case rel =>
                refine ⟨j + 1, ns', by omega, by go_num, ?_⟩
                have h6 := AddK.setAt (sy := ⟨stK.room + ((x.key.size : Int) + (x.val.size : Int) + 16), (if x.seq < lz then x.seq else lz), stK.greatest⟩) HI5.out 2 (.int .u64 (if x.seq < lz then x.seq else lz)) rfl
                have h7 := AddK.setAt (sy := ⟨stK.room + ((x.key.size : Int) + (x.val.size : Int) + 16), (if x.seq < lz then x.seq else lz), (if stK.greatest < x.seq then x.seq else stK.greatest)⟩) h6 3 (.int .u64 (if stK.greatest < x.seq then x.seq else stK.greatest)) rfl
                unfold AddI
                rw [take_snoc' HX.out, List.foldl_append, HST.out, List.foldl_cons, List.foldl_nil, stI_eq stK x lz HLZ.out]
                exact h7.on ((Below.refl _ _).drew)
              case measure => simp [intOf]; omega
        · obtain rfl : j = L.length := by omega
          have HI := Lib.hid hI
          clear hI
          go_wp2
          go_ret
          have hI := HI.out
          unfold AddI at hI
          rw [List.take_length] at hI
          have hp := hI.perm
          rw [List.take_length] at hp
          exact ⟨rfl, nsK, by rw [HL.out]; exact hI.tb, by rw [HL.out]; exact hp, hI.grew, hI.off⟩
end Go.Proofs.Ythhdameaihclmaa
