/- MemAt's law returns true. Condition: that its lists of writes lie in memory. -/
import Derived.Test.YthhdameaihclmaaMq
import Derived.Deep.CutBlock
namespace Go.Proofs.Ythhdameaihclmaa
open Go.RowKit Sk

theorem T3.start {w W : World} {v : Value} {l : List Bc} {B1 B2 B3 : Nat} (h1 : TK w B1 [] ⟨0, 0, 0⟩ [] W) (h2 : TK w B2 [] ⟨0, 0, 0⟩ [] W) (h3 : TK w B3 [] ⟨0, 0, 0⟩ [] W) (e2 : B2 = B1 + 1) (e3 : B3 = B2 + 1)
    (ho : W.ownsRow w.heap.size 59 2 v l.length (flatB l)) (hb : Below w.heap.size w W) : T3 w v l B1 B2 B3 [] [] [] 0 W := by
  have hz : Sm ⟨0, 0, 0⟩ 0 := ⟨by decide, by decide⟩
  refine ⟨⟨[], [], [], _, _, _, h1, h2, h3, ⟨hz, hz, hz⟩, ?_, ?_, ?_⟩, ho, hb⟩ <;>
    (intro b hb1 hb2; rcases hb1 with rfl | hb1; rcases hb2 with hb2 | hb2; omega; simp at hb2; simp at hb1)
theorem bc_at {w : World} {n₀ n c : Nat} {A : Option Addr} {l : List Bc} (h : w.ownsRow n₀ 59 2 (.slice A n c) l.length (flatB l)) {k : Nat} {b : Bc} (hk : l[k]? = some b) :
    ∃ g, A = some ⟨g, 0, none⟩ ∧ w.cell? ⟨g, k * 2, none⟩ = some (.int .u64 b.s) ∧ w.cell? ⟨g, k * 2 + 1, none⟩ = some (.slice b.x.a b.x.ws.length b.x.c) := by
  obtain ⟨A', c', e, hc⟩ := bc_cell h
  injection e with e1 _ _
  rw [e1]
  exact hc k b hk
theorem bc_at' {w : World} {n₀ n c g : Nat} {l : List Bc} (h : w.ownsRow n₀ 59 2 (.slice (some ⟨g, 0, none⟩) n c) l.length (flatB l)) {k : Nat} {b : Bc} (hk : l[k]? = some b) :
    w.cell? ⟨g, k * 2, none⟩ = some (.int .u64 b.s) ∧ w.cell? ⟨g, k * 2 + 1, none⟩ = some (.slice b.x.a b.x.ws.length b.x.c) := by
  obtain ⟨g', e, hc⟩ := bc_at h hk
  injection e with e
  injection e with e _ _
  rw [e]
  exact hc
theorem endSeq_le20 {ls : List Sl} (h : OkL ls) (hl : ls.length ≤ 20) (n : Nat) : endSeq 1 ((bts 1 ls).take n) - 1 ≤ 18446744073709551615 := by
  have key : ∀ (m : List Bt) (s : Int), (∀ b ∈ m, b.ws.length ≤ 20) → endSeq s m ≤ s + m.length * 20 := by
    intro m
    induction m with
    | nil => intro s _; simp [endSeq]
    | cons b m ih =>
      intro s hm
      have h1 := hm b (by simp)
      have h2 := ih (s + b.ws.length) (fun y hy => hm y (by simp [hy]))
      simp only [endSeq, List.length_cons]
      omega
  have h1 := key ((bts 1 ls).take n) 1 (fun b hb => by
    obtain ⟨c, hc, rfl⟩ := List.mem_map.1 (List.mem_of_mem_take hb)
    exact (h c hc).2)
  have h2 : ((bts 1 ls).take n).length ≤ ls.length := by rw [List.length_take, bts, List.length_map, bcs_len]; omega
  omega
theorem bts_len (s : Int) (ls : List Sl) : (bts s ls).length = ls.length := by simp [bts, bcs_len]
theorem bts_20 {ls : List Sl} (h : OkL ls) : ∀ b ∈ bts 1 ls, b.ws.length ≤ 20 := by
  intro b hb
  obtain ⟨c, hc, rfl⟩ := List.mem_map.1 hb
  exact (h c hc).2
set_option maxRecDepth 100000 in
set_option maxHeartbeats 40000000 in
theorem memAt_any (w : World) (A : Option Addr) (c : Nat) (ls : List Sl) (upto : Int) (key : ByteArray) (h : Wss w A ls) (hl : ls.length ≤ 20) :
    Calls Try.prog 5 #[.slice A ls.length c, .int .i64 upto, .string key] w fun e w' => e = .returned (.bool true) ∧ Below w.heap.size w w' := by
  have hd0 : decide ((20 : Int) < (ls.length : Int)) = false := decide_eq_false (by omega)
  go_enter Try.func5, Try.ntmps5
  go_wp2
  go_loopw [7, 8, 9] (fun s v i wr => ∃ k : Nat, k ≤ ls.length ∧ i = .int .i64 k ∧ s = .int .u64 (endSeq 1 (bts 1 (ls.take k))) ∧ wr.ownsRow w.heap.size 59 2 v (bcs 1 (ls.take k)).length (flatB (bcs 1 (ls.take k))) ∧ OkL (ls.take k) ∧ Below w.heap.size w wr) (fun _ _ i _ => ls.length - (intOf i).toNat)
  case atStart => exact ⟨0, Nat.zero_le _, rfl, rfl, World.ownsRow_nil _ _ _ _, fun b hb => by simp [bcs] at hb, Below.refl _ _⟩
  case round =>
    obtain ⟨k, hk, rfl, rfl, hrow, hok, hb⟩ := hrel
    by_cases hlt : k < ls.length
    · obtain ⟨x, hx⟩ : ∃ x, ls[k]? = some x := ⟨_, List.getElem?_eq_getElem hlt⟩
      obtain ⟨g, o, rfl, x0, hws⟩ := h.at hx
      have x0 := cell_on hb x0
      have HWSW := Lib.hid hws
      have hws := hws.below hb
      have hb1 := bcs_get (s := 1) hx
      obtain ⟨sk, hsk⟩ : ∃ sk, endSeq 1 (bts 1 (ls.take k)) = sk := ⟨_, rfl⟩
      rw [hsk] at hb1 ⊢
      have HSK := Lib.hid hsk
      have HX := Lib.hid hx
      have HBG := Lib.hid hb1
      have HOKL := Lib.hid hok
      have HROW := Lib.hid hrow
      have HWS := Lib.hid hws
      clear hsk hx hb1 hok hrow hws
      go_upto_region 9 with (refine wpList_store_new rfl 59 _ _ rfl 59 bcZ (bcC ⟨sk, x⟩) rfl rfl rfl Try.size59 (bcC_one _) ?_; intro W0 hb0 hO0)
      have y0 : W0.cell? ⟨wr.heap.size, 0, none⟩ = some (.int .u64 sk) := cell_of hO0 0
      have y1 : W0.cell? ⟨wr.heap.size, 1, none⟩ = some (.slice x.a x.ws.length x.c) := cell_of hO0 1
      have z0 := cell_on hb0 x0
      have HB0 := Lib.hid (below_step hb hb0 (Nat.le_refl _))
      have HO0 := Lib.hid hO0
      have HWS0 := Lib.hid (HWS.out.below hb0)
      have HROW0 := Lib.hid (own_below HROW.out hb0)
      have HAW := Lib.hid (awake9_any)
      clear x0 hO0 hb0 hb
      by_cases h20 : 20 < x.ws.length
      · have hd : decide ((20 : Int) < (x.ws.length : Int)) = true := decide_eq_true (by omega)
        go_wp2_with (go_at_call 20; refine (HAW.out _).mono ?_; rintro e9 w9 ⟨rfl, hb9⟩)
        go_ret
        exact ⟨rfl, below_step HB0.out hb9 (Nat.le_refl _)⟩
      · have hd : decide ((20 : Int) < (x.ws.length : Int)) = false := decide_eq_false (by omega)
        have HCK := Lib.hid (refCheck_any W0 x.a x.c sk x.ws HWS0.out (by omega))
        by_cases hok : okB sk x.ws = true
        · have HOK := Lib.hid hok
          clear hok
          go_upto_region 11 with (go_at_call 21; refine HCK.out.mono ?_; rintro e1 w1 ⟨⟨v1, rfl, hv1⟩, hb1⟩; (obtain rfl : v1 = 0 := hv1.2 HOK.out); clear hv1)
          have HB1 := Lib.hid hb1
          have u0 : w1.cell? ⟨wr.heap.size, 0, none⟩ = some (.int .u64 sk) := cell_on hb1 y0
          have u1 : w1.cell? ⟨wr.heap.size, 1, none⟩ = some (.slice x.a x.ws.length x.c) := cell_on hb1 y1
          have hb2 := below_step HB0.out hb1 (Nat.le_refl _)
          have HROW1 := Lib.hid (own_below HROW0.out hb1)
          have HWS1 := Lib.hid (HWS0.out.below hb1)
          have HO1 := Lib.hid (heap_on hb1 HO0.out)
          have hbl : (bcs 1 (ls.take k)).length ≤ 8589934592 := by rw [bcs_len, List.length_take]; omega
          clear hb1 y0 y1 z0
          go_upto_region 12 with (at_builtin; refine wpList_append_bc rfl (.tmp 53) (.tmp 55) rfl _ (bcs 1 (ls.take k)) ⟨sk, x⟩ rfl rfl HROW1.out hbl hb2.size ?_; intro g9 c9 W9 hrows9 hg9; have hb9 := below_append hb2 HROW1.out hb2.size hg9)
          have HR9 := Lib.hid hrows9
          have HB9 := Lib.hid hb9
          have hbox : W9.heap[wr.heap.size]? = some (.cells (bcC ⟨sk, x⟩) 59 (0, 0)) := by
            refine (hg9.block _ (by rw [World.size_alloc]; have := (Array.getElem?_eq_some_iff.1 HO1.out).1; omega) (fun e => ?_)).trans (heap_on ((Below.refl _ _).alloc (Nat.le_refl _) _) HO1.out)
            obtain ⟨cur, hcur⟩ := own_at HROW.out _ e.symm
            exact absurd (Array.getElem?_eq_some_iff.1 hcur).1 (by omega)
          have t0 : W9.cell? ⟨wr.heap.size, 0, none⟩ = some (.int .u64 sk) := cell_of hbox 0
          have t1 : W9.cell? ⟨wr.heap.size, 1, none⟩ = some (.slice x.a x.ws.length x.c) := cell_of hbox 1
          have HN := Lib.hid (next_any W9 x.a x.c sk x.ws (HWSW.out.below hb9) HOK.out)
          clear u0 u1 hrows9 hb9 hbox hg9 hb2
          go_wp2_with (go_at_call 22; refine HN.out.mono ?_; rintro e3 w3 ⟨rfl, hb3⟩)
          go_roundw
          case rel =>
            have hsn : bcs 1 (ls.take (k + 1)) = bcs 1 (ls.take k) ++ [⟨sk, x⟩] := by rw [bcs_take, bcs_take, take_snoc' HBG.out]
            refine ⟨k + 1, by omega, by go_num, ?_, ?_, ?_, below_step HB9.out hb3 (Nat.le_refl _)⟩
            · rw [bts, hsn, List.map_append, List.map_cons, List.map_nil, endSeq_snoc]
              have := HSK.out
              rw [bts] at this
              rw [this]
              rfl
            · rw [hsn]
              have := own_below HR9.out hb3
              simp only [List.length_append, List.length_cons, List.length_nil] at this ⊢
              exact this
            · intro b hb
              rw [hsn] at hb
              rcases List.mem_append.1 hb with hb | hb
              · exact HOKL.out b hb
              · simp at hb; subst hb; exact ⟨HOK.out, by show x.ws.length ≤ 20; omega⟩
          case measure => simp [intOf]; omega
        · have HOK := Lib.hid hok
          clear hok
          go_wp2_with (first
            | (go_at_call 21; refine HCK.out.mono ?_; rintro e1 w1 ⟨⟨v1, rfl, hv1⟩, hb1⟩; have hv2 : (v1 == 0) = false := beq_eq_false_iff_ne.2 (fun e => HOK.out (hv1.1 e)); have HB1 := Lib.hid hb1; clear hv1 hb1)
            | (go_at_call 20; refine (HAW.out _).mono ?_; rintro e9 w9 ⟨rfl, hb9⟩))
          go_ret
          exact ⟨rfl, below_step (below_step HB0.out HB1.out (Nat.le_refl _)) hb9 (Nat.le_refl _)⟩
    · obtain rfl : k = ls.length := by omega
      rw [List.take_length] at hrow hok ⊢
      obtain ⟨A8, c8, e8, -⟩ := bc_cell hrow
      subst e8
      rw [bcs_len] at *
      have HROW := Lib.hid hrow
      have HOKL := Lib.hid hok
      have HB := Lib.hid hb
      clear hrow hok hb
      go_upto_region 14 with fail
      go_cut [67] (fun v wx => ∃ b : Bool, v = .bool b ∧ (b = false → 0 ≤ upto ∧ upto ≤ (ls.length : Int)) ∧ wr = wx)
      case first =>
        by_cases hu : upto < 0
        · go_wp2
          go_meet
          exact ⟨true, rfl, fun h => by (cases h), rfl⟩
        · by_cases hu2 : (ls.length : Int) < upto
          · have hd1 : decide (upto < 0) = false := decide_eq_false hu
            have hd2 : decide ((ls.length : Int) < upto) = true := decide_eq_true hu2
            clear hu hu2
            go_wp2
            go_meet
            exact ⟨true, rfl, fun h => by (cases h), rfl⟩
          · have hd1 : decide (upto < 0) = false := decide_eq_false hu
            have hd2 : decide ((ls.length : Int) < upto) = false := decide_eq_false hu2
            have HU := Lib.hid (show 0 ≤ upto ∧ upto ≤ (ls.length : Int) by omega)
            clear hu hu2
            go_wp2
            go_meet
            exact ⟨false, rfl, fun _ => HU.out, rfl⟩
      case rest =>
        obtain ⟨b, rfl, hub, rfl⟩ := hcut
        have HUB := Lib.hid hub
        clear hub
        go_upto_if 67 with (fail)
        go_cut [11] (fun v wx => ∃ n : Nat, v = .int .i64 n ∧ n ≤ ls.length ∧ wr = wx)
        case first =>
          cases b with
          | true =>
            go_wp2
            go_meet
            exact ⟨ls.length, rfl, Nat.le_refl _, rfl⟩
          | false =>
            have HH := Lib.hid (HUB.out rfl)
            go_wp2
            go_meet
            have hh := HH.out
            exact ⟨upto.toNat, congrArg (Value.int .i64) (by omega), by omega, rfl⟩
        case rest =>
          obtain ⟨n, rfl, hn, rfl⟩ := hcut
          have HNW := Lib.hid (fun W hW => new_tk w W hW)
          go_upto_block 2 with (first
            | (go_at_call 23; have tok1 := HROW; refine (HNW.out _ HB.out.size).mono ?_; rintro e1 w1 ⟨rfl, T1, hb1, hz1⟩; have HZ1 := Lib.hid hz1; have HT1 := Lib.hid T1; have HB1 := Lib.hid (below_step HB.out hb1 (Nat.le_refl _)); have HR1 := Lib.hid (own_below HROW.out hb1); clear hz1 T1 hb1 HROW HB tok1)
            | (go_at_call 23; have tok1 := HT1; refine (HNW.out _ HB1.out.size).mono ?_; rintro e2 w2 ⟨rfl, T2, hb2, hz2⟩; have HZ2 := Lib.hid hz2; have HT2 := Lib.hid T2; have HT12 := Lib.hid (HT1.out.on hb2); have HB2 := Lib.hid (below_step HB1.out hb2 (Nat.le_refl _)); have HR2 := Lib.hid (own_below HR1.out hb2); clear hz2 T2 hb2 HT1 HB1 HR1 tok1)
            | (go_at_call 23; refine (HNW.out _ HB2.out.size).mono ?_; rintro e3 w3 ⟨rfl, T3, hb3, hz3⟩; have HZ3 := Lib.hid hz3; have HT3 := Lib.hid T3; have HT13 := Lib.hid (HT12.out.on hb3); have HT23 := Lib.hid (HT2.out.on hb3); have HB3 := Lib.hid (below_step HB2.out hb3 (Nat.le_refl _)); have HR3 := Lib.hid (own_below HR2.out hb3); clear hz3 T3 hb3))
          have hT0 := T3.start (v := .slice A8 ls.length c8) (l := bcs 1 ls) HT13.out HT23.out HT3.out HZ1.out HZ2.out (by rw [bcs_len]; exact HR3.out) HB3.out
          clear HT13 HT23 HT3 HR3 HB3
          go_wp2
          go_loopw [15, 16] (fun a i wx => ∃ (k m : Nat), k ≤ ls.length ∧ i = .int .i64 k ∧ a = .int .u64 (endSeq 1 ((bts 1 ls).take (min k n)) - 1) ∧ m ≤ 3 * k ∧
              T3 w (.slice A8 ls.length c8) (bcs 1 ls) wr.heap.size w1.heap.size w2.heap.size (rws (bts 1 ls) (min k n)) (rws (bts 1 ls) k) (rws (bts 1 ls).reverse k) m wx) (fun _ i _ => ls.length - (intOf i).toNat)
          case atStart => exact ⟨0, 0, Nat.zero_le _, rfl, by simp [endSeq], by omega, by simp only [Nat.zero_min, rws_zero]; exact hT0⟩
          case round =>
            obtain ⟨wx, rfl⟩ : ∃ wx, wx = wr := ⟨_, rfl⟩
            obtain ⟨k, m, hk, rfl, rfl, hm, hT⟩ := hrel
            by_cases hlt : k < ls.length
            · obtain ⟨b, hb⟩ : ∃ b, (bcs 1 ls)[k]? = some b := ⟨_, List.getElem?_eq_getElem (by rw [bcs_len]; exact hlt)⟩
              obtain ⟨j, hj⟩ : ∃ j, ls.length = k + 1 + j := ⟨ls.length - (k + 1), by omega⟩
              obtain ⟨b', hb'⟩ : ∃ b', (bcs 1 ls)[j]? = some b' := ⟨_, List.getElem?_eq_getElem (by rw [bcs_len]; omega)⟩
              obtain ⟨g8, rfl, c0, c1⟩ := bc_at hT.own hb
              have ho := HOKL.out b (List.mem_of_getElem? hb)
              have ho' := HOKL.out b' (List.mem_of_getElem? hb')
              have HW := Lib.hid (fun W (hW : Below w.heap.size w W) => Wrs.below (by obtain ⟨_, _, _, _, hx⟩ := h.at (bc_in hb); exact hx) hW)
              have HW' := Lib.hid (fun W (hW : Below w.heap.size w W) => Wrs.below (by obtain ⟨_, _, _, _, hx⟩ := h.at (bc_in hb'); exact hx) hW)
              have hs := (okB_iff _ _).1 ho.1
              have hs1 := hs.2.1
              have hs2 := hs.2.2.1
              have HO := Lib.hid ho.1
              have HO' := Lib.hid ho'.1
              have hl1 := ho.2
              have HBK := Lib.hid hb
              have HBJ := Lib.hid hb'
              have HJ := Lib.hid hj
              have HT := Lib.hid hT
              clear hs ho ho' hb hb' hj hT
              go_upto_if 81 with (fail)
              go_cut [15] (fun a w5 => a = .int .u64 (endSeq 1 ((bts 1 ls).take (min (k + 1) n)) - 1) ∧ ∃ m', m' ≤ m + 1 ∧
                T3 w (.slice (some ⟨g8, 0, none⟩) ls.length c8) (bcs 1 ls) wr.heap.size w1.heap.size w2.heap.size (rws (bts 1 ls) (min (k + 1) n)) (rws (bts 1 ls) k) (rws (bts 1 ls).reverse k) m' w5)
              case first =>
                by_cases hkn : k < n
                · have hT := HT.out
                  rw [Nat.min_eq_left (by omega : k ≤ n)] at hT
                  have HA := Lib.hid (hT.add1 (by omega) (Nat.le_trans (rws_len (bts_20 HOKL.out) k) (by rw [bts_len]; omega)) b.x.a b.x.c b.s b.x.ws (HW.out _ hT.below) HO.out (rws_fresh (chain_apart (bts_chain 1 ls)) (bts_get HBK.out)))
                  have hd : decide ((k : Int) < (n : Int)) = true := decide_eq_true (by omega)
                  have HKN := Lib.hid hkn
                  clear hT hkn
                  go_wp2_with (first
                    | (go_at_call 24; refine HA.out.mono ?_; rintro e5 w5 ⟨rfl, hT5⟩; obtain ⟨d0, d1⟩ := bc_at' hT5.own HBK.out; have HT5 := Lib.hid hT5; have HNX := Lib.hid (next_any w5 b.x.a b.x.c b.s b.x.ws (HW.out _ hT5.below) HO.out); clear hT5)
                    | (go_at_call 22; refine HNX.out.mono ?_; rintro e6 w6 ⟨rfl, hb6⟩))
                  go_meet
                  have e1 : min (k + 1) n = k + 1 := by have := HKN.out; omega
                  obtain ⟨q1, q2⟩ := endSeq_take HBK.out
                  refine ⟨by rw [e1, q2], m + 1, Nat.le_refl _, ?_⟩
                  rw [e1, rws_succ (bts_get HBK.out)]
                  exact HT5.out.on hb6
                · have hd : decide ((k : Int) < (n : Int)) = false := decide_eq_false (by omega)
                  have HKN := Lib.hid hkn
                  clear hkn
                  go_wp2
                  go_meet
                  have e1 : min (k + 1) n = n := by have := HKN.out; omega
                  have e2 : min k n = n := by have := HKN.out; omega
                  rw [e1]
                  have hT := HT.out
                  rw [e2] at hT ⊢
                  exact ⟨rfl, m, by omega, hT⟩
              case rest =>
                obtain ⟨rfl, m', hm', hT⟩ := hcut
                obtain ⟨w5, rfl⟩ : ∃ w5, w5 = wc := ⟨_, rfl⟩
                obtain ⟨d0, d1⟩ := bc_at' hT.own HBK.out
                have hlr : (rws (bts 1 ls).reverse k).length ≤ 2147483648 := Nat.le_trans (rws_len (fun x hx => bts_20 HOKL.out x (List.mem_reverse.1 hx)) k) (by rw [List.length_reverse, bts_len]; omega)
                have HLR := Lib.hid hlr
                have HA2 := Lib.hid (hT.add2 (by omega) (Nat.le_trans (rws_len (bts_20 HOKL.out) k) (by rw [bts_len]; omega)) b.x.a b.x.c b.s b.x.ws (HW.out _ hT.below) HO.out (rws_fresh (chain_apart (bts_chain 1 ls)) (bts_get HBK.out)))
                have hji : (ls.length : Int) - 1 - (k : Int) = (j : Int) := by have := HJ.out; omega
                have hjl : j < ls.length := by have := HJ.out; omega
                have hm3 : m' ≤ 1000 := by omega
                clear hT hlr c0 c1
                go_wp2_with (first
                  | (go_at_call 24; refine HA2.out.mono ?_; rintro e6 w6 ⟨rfl, hT6⟩; obtain ⟨f0, f1⟩ := bc_at' hT6.own HBJ.out; have HT6 := Lib.hid hT6; have HA3 := Lib.hid (hT6.add3 (by omega) HLR.out b'.x.a b'.x.c b'.s b'.x.ws (HW'.out _ hT6.below) HO'.out (rws_fresh (apart_rev (chain_apart (bts_chain 1 ls))) (bts_rev HBJ.out HJ.out))); clear hT6 HA2)
                  | (go_at_call 24; refine HA3.out.mono ?_; rintro e7 w7 ⟨rfl, hT7⟩; have HT7 := Lib.hid hT7; clear hT7))
                go_roundw
                case rel =>
                  refine ⟨k + 1, m' + 1 + 1, by omega, by go_num, rfl, by omega, ?_⟩
                  rw [rws_succ (bts_get HBK.out), rws_succ (bts_rev HBJ.out HJ.out)]
                  exact HT7.out
                case measure => simp [intOf]; omega
            · obtain rfl : k = ls.length := by omega
              rw [Nat.min_eq_right hn] at hT ⊢
              obtain ⟨ns1, ns2, ns3, st1, st2, st3, h1, h2, h3, -⟩ := hT.tabs
              have hL := law_get h1.tb.ord h2.tb.ord h3.tb.ord h1.perm h2.perm h3.perm (endSeq_le20 HOKL.out hl n) key
              obtain ⟨at', hat⟩ : ∃ at', endSeq 1 ((bts 1 ls).take n) - 1 = at' := ⟨_, rfl⟩
              rw [hat] at hL ⊢
              obtain ⟨q, hq⟩ : ∃ q, getR (rs ns1) key at' = q := ⟨_, rfl⟩
              rw [hq] at hL
              obtain ⟨g1, g2, g3, g4, g5⟩ := hL
              have hlA : (rws (bts 1 ls) n).length ≤ 2147483648 := Nat.le_trans (rws_len (bts_20 HOKL.out) n) (by rw [bts_len]; omega)
              have hlB : (rws (bts 1 ls) ls.length).length ≤ 2147483648 := Nat.le_trans (rws_len (bts_20 HOKL.out) _) (by rw [bts_len]; omega)
              have hlC : (rws (bts 1 ls).reverse ls.length).length ≤ 2147483648 := Nat.le_trans (rws_len (fun x hx => bts_20 HOKL.out x (List.mem_reverse.1 hx)) _) (by rw [List.length_reverse, bts_len]; omega)
              have HG1 := Lib.hid (fun W (hW : Below wx.heap.size wx W) => (show Calls _ _ _ _ _ from by have := get_tk (h1.on hW) hlA key at'; rw [hq] at this; exact this))
              have HG2 := Lib.hid (fun W (hW : Below wx.heap.size wx W) => (show Calls _ _ _ _ _ from by have := get_tk (h2.on hW) hlB key at'; rw [← g1] at this; exact this))
              have HG3 := Lib.hid (fun W (hW : Below wx.heap.size wx W) => (show Calls _ _ _ _ _ from by have := get_tk (h3.on hW) hlC key at'; rw [← g2] at this; exact this))
              have HG4 := Lib.hid (fun W (hW : Below wx.heap.size wx W) => (show Calls _ _ _ _ _ from by have := get_tk (h1.on hW) hlA key 18446744073709551615; rw [← g3] at this; exact this))
              have HRA := Lib.hid (fun W (hW : Below wx.heap.size wx W) => rows_tk (h2.on hW) hlB)
              have HRB := Lib.hid (fun W (hW : Below wx.heap.size wx W) => (show Calls _ _ _ _ _ from by have := rows_tk (h3.on hW) hlC; rw [← g4] at this; exact this))
              have hl2 : (rs ns2).length ≤ 4294967296 := by have := h2.len; simp only [rs, List.length_map]; omega
              have HL2 := Lib.hid hl2
              have HB := Lib.hid hT.below
              have HG5 := Lib.hid g5
              have HAW := Lib.hid awake9_any
              clear hT h1 h2 h3 hq g1 g2 g3 g4 g5 hlA hlB hlC hl2 hat hk hlt
              cases q with
              | none =>
                simp only [seekV, zeroRow] at HG1 HG2 HG3 HG4
                go_upto_region 28 with (go_at_call 25; refine (HG1.out _ (Below.refl _ _)).mono ?_; rintro e4 w4 ⟨rfl, hb4⟩)
                have HO4 := Lib.hid (heap_alloc_new w4 (.cells zeroRow 27))
                have HB4 := Lib.hid (below_step (Below.refl _ _) (hb4.alloc hb4.size (.cells zeroRow 27)) (Nat.le_refl _))
                have HC4 := Lib.hid (hb4.alloc hb4.size (.cells zeroRow 27))
                clear hb4
                simp only [zeroRow] at HO4 HB4 HC4
                generalize w4.alloc (.cells #[.string ⟨#[]⟩, .int .u64 0, .int .i64 0, .string ⟨#[]⟩] 27) = W4 at *
                go_upto_region 29 with (go_at_call 25; refine (HG2.out _ HB4.out).mono ?_; rintro e5 w5 ⟨rfl, hb5⟩)
                have HO5 := Lib.hid (heap_alloc_new w5 (.cells zeroRow 27))
                have HB5 := Lib.hid (below_step HB4.out (hb5.alloc hb5.size (.cells zeroRow 27)) (Nat.le_refl _))
                have HC5 := Lib.hid (hb5.alloc hb5.size (.cells zeroRow 27))
                clear hb5
                simp only [zeroRow] at HO5 HB5 HC5
                generalize w5.alloc (.cells #[.string ⟨#[]⟩, .int .u64 0, .int .i64 0, .string ⟨#[]⟩] 27) = W5 at *
                go_upto_region 30 with (go_at_call 25; refine (HG3.out _ HB5.out).mono ?_; rintro e6 w6 ⟨rfl, hb6⟩)
                have HO6 := Lib.hid (heap_alloc_new w6 (.cells zeroRow 27))
                have HB6 := Lib.hid (below_step HB5.out (hb6.alloc hb6.size (.cells zeroRow 27)) (Nat.le_refl _))
                have HC6 := Lib.hid (hb6.alloc hb6.size (.cells zeroRow 27))
                clear hb6
                simp only [zeroRow] at HO6 HB6 HC6
                generalize w6.alloc (.cells #[.string ⟨#[]⟩, .int .u64 0, .int .i64 0, .string ⟨#[]⟩] 27) = W6 at *
                go_upto_region 31 with (go_at_call 25; refine (HG4.out _ HB6.out).mono ?_; rintro e7 w7 ⟨rfl, hb7⟩)
                have HO7 := Lib.hid (heap_alloc_new w7 (.cells zeroRow 27))
                have HB7 := Lib.hid (below_step HB6.out (hb7.alloc hb7.size (.cells zeroRow 27)) (Nat.le_refl _))
                have HC7 := Lib.hid (hb7.alloc hb7.size (.cells zeroRow 27))
                clear hb7
                simp only [zeroRow] at HO7 HB7 HC7
                generalize w7.alloc (.cells #[.string ⟨#[]⟩, .int .u64 0, .int .i64 0, .string ⟨#[]⟩] 27) = W7 at *
                have k40 : W7.cell? ⟨w4.heap.size, 0, none⟩ = some (Value.string ⟨#[]⟩) := cell_of (heap_on HC7.out (heap_on HC6.out (heap_on HC5.out HO4.out))) 0
                have k41 : W7.cell? ⟨w4.heap.size, 1, none⟩ = some (Value.int .u64 0) := cell_of (heap_on HC7.out (heap_on HC6.out (heap_on HC5.out HO4.out))) 1
                have k42 : W7.cell? ⟨w4.heap.size, 2, none⟩ = some (Value.int .i64 0) := cell_of (heap_on HC7.out (heap_on HC6.out (heap_on HC5.out HO4.out))) 2
                have k43 : W7.cell? ⟨w4.heap.size, 3, none⟩ = some (Value.string ⟨#[]⟩) := cell_of (heap_on HC7.out (heap_on HC6.out (heap_on HC5.out HO4.out))) 3
                have k50 : W7.cell? ⟨w5.heap.size, 0, none⟩ = some (Value.string ⟨#[]⟩) := cell_of (heap_on HC7.out (heap_on HC6.out HO5.out)) 0
                have k51 : W7.cell? ⟨w5.heap.size, 1, none⟩ = some (Value.int .u64 0) := cell_of (heap_on HC7.out (heap_on HC6.out HO5.out)) 1
                have k52 : W7.cell? ⟨w5.heap.size, 2, none⟩ = some (Value.int .i64 0) := cell_of (heap_on HC7.out (heap_on HC6.out HO5.out)) 2
                have k53 : W7.cell? ⟨w5.heap.size, 3, none⟩ = some (Value.string ⟨#[]⟩) := cell_of (heap_on HC7.out (heap_on HC6.out HO5.out)) 3
                have k60 : W7.cell? ⟨w6.heap.size, 0, none⟩ = some (Value.string ⟨#[]⟩) := cell_of (heap_on HC7.out HO6.out) 0
                have k61 : W7.cell? ⟨w6.heap.size, 1, none⟩ = some (Value.int .u64 0) := cell_of (heap_on HC7.out HO6.out) 1
                have k62 : W7.cell? ⟨w6.heap.size, 2, none⟩ = some (Value.int .i64 0) := cell_of (heap_on HC7.out HO6.out) 2
                have k63 : W7.cell? ⟨w6.heap.size, 3, none⟩ = some (Value.string ⟨#[]⟩) := cell_of (heap_on HC7.out HO6.out) 3
                have k70 : W7.cell? ⟨w7.heap.size, 0, none⟩ = some (Value.string ⟨#[]⟩) := cell_of (HO7.out) 0
                have k71 : W7.cell? ⟨w7.heap.size, 1, none⟩ = some (Value.int .u64 0) := cell_of (HO7.out) 1
                have k72 : W7.cell? ⟨w7.heap.size, 2, none⟩ = some (Value.int .i64 0) := cell_of (HO7.out) 2
                have k73 : W7.cell? ⟨w7.heap.size, 3, none⟩ = some (Value.string ⟨#[]⟩) := cell_of (HO7.out) 3
                go_wp2_with (first
                  | (go_at_call 26; refine (HRA.out _ HB7.out).mono ?_; rintro e8 w8 ⟨v8, rfl, hr8, hb8⟩; obtain ⟨A8', c8', rfl, R8⟩ := rows_of_own hr8 rfl; have HR8 := Lib.hid R8; have HB8 := Lib.hid (below_step HB7.out hb8 (Nat.le_refl _)); clear R8 hr8 hb8 HB7)
                  | (go_at_call 26; refine (HRB.out _ HB8.out).mono ?_; rintro e9 w9 ⟨v9, rfl, hr9, hb9⟩; obtain ⟨A9, c9, rfl, R9⟩ := rows_of_own hr9 rfl; have HR9 := Lib.hid R9; have HR89 := Lib.hid (HR8.out.below hb9); have HB9 := Lib.hid (below_step HB8.out hb9 (Nat.le_refl _)); clear R9 hr9 hb9)
                  | (go_at_call 12; refine (same_any _ _ _ _ _ _ HR89.out HR9.out HL2.out).mono ?_; rintro e10 w10 ⟨rfl, hb10⟩; have HB10 := Lib.hid (below_step HB9.out hb10 (Nat.le_refl _)); clear hb10)
                  | (go_at_call 20; refine (HAW.out _).mono ?_; rintro e11 w11 ⟨rfl, hb11⟩))
                go_ret
                exact ⟨rfl, below_step HB.out (below_step HB10.out hb11 (Nat.le_refl _)) (Nat.le_refl _)⟩
              | some r =>
                simp only [seekV, rowC] at HG1 HG2 HG3 HG4
                go_upto_region 28 with (first
                  | (go_at_call 25; refine (HG1.out _ (Below.refl _ _)).mono ?_; rintro e4 w4 ⟨rfl, hb4⟩)
                  | (refine wpList_store_new rfl 27 _ _ rfl 27 zeroRow (rowC r) rfl rfl rfl Try.size27 (rowC_one _) ?_; intro W4 hc4 hO4))
                have HO4 := Lib.hid hO4
                have HB4 := Lib.hid (below_step (Below.refl _ _) (below_step hb4 hc4 (Nat.le_refl _)) (Nat.le_refl _))
                have HC4 := Lib.hid (below_step hb4 hc4 (Nat.le_refl _))
                clear hb4 hc4 hO4
                go_upto_region 29 with (first
                  | (go_at_call 25; refine (HG2.out _ HB4.out).mono ?_; rintro e5 w5 ⟨rfl, hb5⟩)
                  | (refine wpList_store_new rfl 27 _ _ rfl 27 zeroRow (rowC r) rfl rfl rfl Try.size27 (rowC_one _) ?_; intro W5 hc5 hO5))
                have HO5 := Lib.hid hO5
                have HB5 := Lib.hid (below_step HB4.out (below_step hb5 hc5 (Nat.le_refl _)) (Nat.le_refl _))
                have HC5 := Lib.hid (below_step hb5 hc5 (Nat.le_refl _))
                clear hb5 hc5 hO5
                go_upto_region 30 with (first
                  | (go_at_call 25; refine (HG3.out _ HB5.out).mono ?_; rintro e6 w6 ⟨rfl, hb6⟩)
                  | (refine wpList_store_new rfl 27 _ _ rfl 27 zeroRow (rowC r) rfl rfl rfl Try.size27 (rowC_one _) ?_; intro W6 hc6 hO6))
                have HO6 := Lib.hid hO6
                have HB6 := Lib.hid (below_step HB5.out (below_step hb6 hc6 (Nat.le_refl _)) (Nat.le_refl _))
                have HC6 := Lib.hid (below_step hb6 hc6 (Nat.le_refl _))
                clear hb6 hc6 hO6
                go_upto_region 31 with (first
                  | (go_at_call 25; refine (HG4.out _ HB6.out).mono ?_; rintro e7 w7 ⟨rfl, hb7⟩)
                  | (refine wpList_store_new rfl 27 _ _ rfl 27 zeroRow (rowC r) rfl rfl rfl Try.size27 (rowC_one _) ?_; intro W7 hc7 hO7))
                have HO7 := Lib.hid hO7
                have HB7 := Lib.hid (below_step HB6.out (below_step hb7 hc7 (Nat.le_refl _)) (Nat.le_refl _))
                have HC7 := Lib.hid (below_step hb7 hc7 (Nat.le_refl _))
                clear hb7 hc7 hO7
                obtain ⟨hrk, hrs⟩ := HG5.out r rfl
                have hkb : (r.key.toList == key.toList) = true := by rw [hrk]; exact beq_self_eq_true _
                have hkb2 : decide (r.seq ≤ at') = true := decide_eq_true hrs
                clear hrk hrs
                have k40 : W7.cell? ⟨w4.heap.size, 0, none⟩ = some (Value.string r.key) := cell_of (heap_on HC7.out (heap_on HC6.out (heap_on HC5.out HO4.out))) 0
                have k41 : W7.cell? ⟨w4.heap.size, 1, none⟩ = some (Value.int .u64 r.seq) := cell_of (heap_on HC7.out (heap_on HC6.out (heap_on HC5.out HO4.out))) 1
                have k42 : W7.cell? ⟨w4.heap.size, 2, none⟩ = some (Value.int .i64 r.kind) := cell_of (heap_on HC7.out (heap_on HC6.out (heap_on HC5.out HO4.out))) 2
                have k43 : W7.cell? ⟨w4.heap.size, 3, none⟩ = some (Value.string r.val) := cell_of (heap_on HC7.out (heap_on HC6.out (heap_on HC5.out HO4.out))) 3
                have k50 : W7.cell? ⟨w5.heap.size, 0, none⟩ = some (Value.string r.key) := cell_of (heap_on HC7.out (heap_on HC6.out HO5.out)) 0
                have k51 : W7.cell? ⟨w5.heap.size, 1, none⟩ = some (Value.int .u64 r.seq) := cell_of (heap_on HC7.out (heap_on HC6.out HO5.out)) 1
                have k52 : W7.cell? ⟨w5.heap.size, 2, none⟩ = some (Value.int .i64 r.kind) := cell_of (heap_on HC7.out (heap_on HC6.out HO5.out)) 2
                have k53 : W7.cell? ⟨w5.heap.size, 3, none⟩ = some (Value.string r.val) := cell_of (heap_on HC7.out (heap_on HC6.out HO5.out)) 3
                have k60 : W7.cell? ⟨w6.heap.size, 0, none⟩ = some (Value.string r.key) := cell_of (heap_on HC7.out HO6.out) 0
                have k61 : W7.cell? ⟨w6.heap.size, 1, none⟩ = some (Value.int .u64 r.seq) := cell_of (heap_on HC7.out HO6.out) 1
                have k62 : W7.cell? ⟨w6.heap.size, 2, none⟩ = some (Value.int .i64 r.kind) := cell_of (heap_on HC7.out HO6.out) 2
                have k63 : W7.cell? ⟨w6.heap.size, 3, none⟩ = some (Value.string r.val) := cell_of (heap_on HC7.out HO6.out) 3
                have k70 : W7.cell? ⟨w7.heap.size, 0, none⟩ = some (Value.string r.key) := cell_of (HO7.out) 0
                have k71 : W7.cell? ⟨w7.heap.size, 1, none⟩ = some (Value.int .u64 r.seq) := cell_of (HO7.out) 1
                have k72 : W7.cell? ⟨w7.heap.size, 2, none⟩ = some (Value.int .i64 r.kind) := cell_of (HO7.out) 2
                have k73 : W7.cell? ⟨w7.heap.size, 3, none⟩ = some (Value.string r.val) := cell_of (HO7.out) 3
                go_wp2_with (first
                  | (go_at_call 26; refine (HRA.out _ HB7.out).mono ?_; rintro e8 w8 ⟨v8, rfl, hr8, hb8⟩; obtain ⟨A8', c8', rfl, R8⟩ := rows_of_own hr8 rfl; have HR8 := Lib.hid R8; have HB8 := Lib.hid (below_step HB7.out hb8 (Nat.le_refl _)); clear R8 hr8 hb8 HB7)
                  | (go_at_call 26; refine (HRB.out _ HB8.out).mono ?_; rintro e9 w9 ⟨v9, rfl, hr9, hb9⟩; obtain ⟨A9, c9, rfl, R9⟩ := rows_of_own hr9 rfl; have HR9 := Lib.hid R9; have HR89 := Lib.hid (HR8.out.below hb9); have HB9 := Lib.hid (below_step HB8.out hb9 (Nat.le_refl _)); clear R9 hr9 hb9)
                  | (go_at_call 12; refine (same_any _ _ _ _ _ _ HR89.out HR9.out HL2.out).mono ?_; rintro e10 w10 ⟨rfl, hb10⟩; have HB10 := Lib.hid (below_step HB9.out hb10 (Nat.le_refl _)); clear hb10)
                  | (go_at_call 20; refine (HAW.out _).mono ?_; rintro e11 w11 ⟨rfl, hb11⟩))
                go_ret
                exact ⟨rfl, below_step HB.out (below_step HB10.out hb11 (Nat.le_refl _)) (Nat.le_refl _)⟩
set_option maxRecDepth 100000 in
set_option maxHeartbeats 2000000 in
theorem memAt_long (w : World) (A : Option Addr) (n c : Nat) (upto : Int) (key : ByteArray) (hl : 20 < n) :
    Calls Try.prog 5 #[.slice A n c, .int .i64 upto, .string key] w fun e w' => e = .returned (.bool true) ∧ Below w.heap.size w w' := by
  go_enter Try.func5, Try.ntmps5
  go_wp2_with (go_at_call 20; refine (awake9_any _).mono ?_; rintro e7 w7 ⟨rfl, hb7⟩)
  go_ret
  exact ⟨rfl, hb7⟩

theorem memAt_walk (w : World) (A : Option Addr) (c : Nat) (ls : List Sl) (upto : Int) (key : ByteArray) (h : Wss w A ls) :
    Calls Try.prog 5 #[.slice A ls.length c, .int .i64 upto, .string key] w fun e w' => e = .returned (.bool true) ∧ Below w.heap.size w w' := by
  by_cases hl : ls.length ≤ 20
  · exact memAt_any w A c ls upto key h hl
  · exact memAt_long w A _ c upto key (by omega)
end Go.Proofs.Ythhdameaihclmaa
