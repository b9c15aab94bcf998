/- SkipFrom returns true. Condition: at most 100 rows. -/
import Derived.Test.YthhdameaihclmaaAw
import Derived.Test.YthhdameaihclmaaCo
import Derived.Deep.RegionHeld3
import Derived.Deep.DrawnRows
import Derived.Deep.DeepCutAuto
import Derived.Lib.QuietBelow
namespace Go.Proofs.Ythhdameaihclmaa
open Go.RowKit Sk

/-- A list that a call has made. -/
def Lst (w : World) (B : Nat) (m : Nat) (wr : World) : Prop :=
  ∃ ns, SL wr B 33 #[] ns ∧ ns.length ≤ m ∧ Below w.heap.size w wr ∧ ∀ b, blks B ns b → w.heap.size ≤ b

theorem put_any (w : World) (B : Nat) (ns : List Nd) (r : Rw) (hgt : Int) (h : SL w B 33 #[] ns) (hlen : ns.length ≤ 4294967296) (hw : 0 ≤ r.seq ∧ r.seq ≤ 18446744073709551615) (hg1 : -9223372036854775808 ≤ hgt) (hg2 : hgt ≤ 9223372036854775807) (n₀ : Nat) (hn0 : n₀ ≤ w.heap.size) (hbl : ∀ b, blks B ns b → n₀ ≤ b) :
    Calls Try.prog 9 #[.pointer (some ⟨B, 0, none⟩), .agg #[.string r.key, .int .u64 r.seq, .int .i64 r.kind, .string r.val], .int .i64 hgt] w fun e' w' =>
      ∃ b ns', e' = .returned (.bool b) ∧ SL w' B 33 #[] ns' ∧ ns'.length ≤ ns.length + 1 ∧ Below n₀ w w' ∧ ∀ b, blks B ns' b → n₀ ≤ b := by
  by_cases hn : ∃ n, ns[place (rs ns) r.key r.seq]? = some n ∧ at_ n.row r.key r.seq = true
  · obtain ⟨n, hn, ht⟩ := hn
    exact (put_there w B 33 #[] ns r hgt h hlen n hn ht).mono fun e' w' ⟨h1, h2⟩ => ⟨_, ns, h1, h.below h2, by omega, h2.mono hn0, hbl⟩
  · have hn' : ∀ n, ns[place (rs ns) r.key r.seq]? = some n → at_ n.row r.key r.seq = false := fun n hq => by
      cases hx : at_ n.row r.key r.seq with
      | false => rfl
      | true => exact absurd ⟨n, hq, hx⟩ hn
    refine (put_at w B 33 #[] ns r hgt _ h hlen rfl hn' hw hg1 hg2 n₀ hn0 hbl).mono fun e' w' ⟨h1, g, h2, h3, _, _, h4⟩ => ⟨_, _, h1, h2, ?_, h3, h4⟩
    rw [insN_len _ _ _ (by have := place_le (rs ns) r.key r.seq; simpa [rs] using this)]; omega

theorem set4 {w : World} {b : Nat} {c : Array Value} (hc : c.size = 4) (h : w.heap[b]? = some (.cells c 27 (0, 0))) (r : Rw) :
    ((((w.setCell ⟨b, 0, none⟩ (.string r.key)).setCell ⟨b, 1, none⟩ (.int .u64 r.seq)).setCell ⟨b, 2, none⟩ (.int .i64 r.kind)).setCell ⟨b, 3, none⟩ (.string r.val)).heap[b]? = some (.cells (rowC r) 27 (0, 0)) := by
  have h1 := heap_setCell_same w b 0 _ 27 (.string r.key) h
  have h2 := heap_setCell_same _ b 1 _ 27 (.int .u64 r.seq) h1
  have h3 := heap_setCell_same _ b 2 _ 27 (.int .i64 r.kind) h2
  have h4 := heap_setCell_same _ b 3 _ 27 (.string r.val) h3
  rw [h4]
  obtain ⟨l⟩ := c
  match l, hc with
  | [c0, c1, c2, c3], _ => rfl
theorem below_set4 {n b : Nat} {a w : World} (h : Below n a w) (hb : n ≤ b) (r : Rw) :
    Below n a ((((w.setCell ⟨b, 0, none⟩ (.string r.key)).setCell ⟨b, 1, none⟩ (.int .u64 r.seq)).setCell ⟨b, 2, none⟩ (.int .i64 r.kind)).setCell ⟨b, 3, none⟩ (.string r.val)) :=
  (((h.setCell (p := ⟨b, 0, none⟩) hb _).setCell (p := ⟨b, 1, none⟩) hb _).setCell (p := ⟨b, 2, none⟩) hb _).setCell (p := ⟨b, 3, none⟩) hb _
theorem Rows_.drop {w : World} {A : Option Addr} {l : List Rw} (h : Rows_ w A l) (e : Nat) : Rows_ w (A.map fun x => x.add (e * 4)) (l.drop e) := by
  rcases h with rfl | ⟨g, o, rfl, h⟩
  · exact .inl (by simp)
  · refine .inr ⟨g, o + e * 4, by rw [Option.map_some, Addr.add_mid], fun k r hk => ?_⟩
    rw [List.getElem?_drop] at hk
    have := h _ _ hk
    rw [Nat.add_mul, ← Nat.add_assoc] at this
    exact this

set_option maxRecDepth 100000 in
set_option maxHeartbeats 4000000 in
theorem skipFrom_any (w : World) (A A' : Option Addr) (c n' c' : Nat) (rows : List Rw) (hts : List Int) (key : ByteArray) (seq : Int) (hr : Rows_ w A rows) (hh : Ints_ w A' hts) (hn' : n' = hts.length) (hl : rows.length ≤ 100)
    (hwf : ∀ r ∈ rows, 0 ≤ r.seq ∧ r.seq ≤ 18446744073709551615) (hwh : ∀ x ∈ hts, -9223372036854775808 ≤ x ∧ x ≤ 9223372036854775807) :
    Calls Try.prog 4 #[.slice A rows.length c, .slice A' n' c', .string key, .int .u64 seq] w fun e w' => e = .returned (.bool true) ∧ Below w.heap.size w w' := by
  have HB0 := Lib.hid ((Below.refl w.heap.size w).alloc (Nat.le_refl _) (.cells listZ 33))
  have HWF := Lib.hid hwf
  have HWH := Lib.hid hwh
  have HN := Lib.hid hn'
  clear hwf hwh hn'
  go_enter Try.func4, Try.ntmps4
  go_wp2
  go_loopw [10] (fun v wr => ∃ k : Nat, k ≤ rows.length ∧ v = .int .i64 k ∧ Lst w w.heap.size k wr) (fun v _ => rows.length - (intOf v).toNat)
  case atStart => exact ⟨0, Nat.zero_le _, rfl, [], SL.zero w, Nat.le_refl _, HB0.out, fun b hb => by rcases hb with rfl | hb; exact Nat.le_refl _; simp at hb⟩
  case round =>
    obtain ⟨k, hk, rfl, ns, S, hnl, hb, hbl⟩ := hrel
    by_cases hlt : k < rows.length
    · have hq : rows[k]? = some rows[k] := List.getElem?_eq_getElem hlt
      obtain ⟨g, o, rfl, h0, h1, h2, h3⟩ := (hr.below hb).at hq
      have hw := HWF.out rows[k] (List.getElem_mem _)
      obtain ⟨r, hrr⟩ : ∃ r, rows[k] = r := ⟨_, rfl⟩
      rw [hrr] at h0 h1 h2 h3 hw
      clear hq hrr
      -- the height
      go_upto_if 35 with fail
      go_cut [11] (fun s11 wx => ∃ x : Int, s11 = .int .i64 x ∧ -9223372036854775808 ≤ x ∧ x ≤ 9223372036854775807 ∧ wr = wx)
      case first =>
        by_cases hx : k < n'
        · have hx' : hts[k]? = some (hts[k]'(by have := HN.out; omega)) := List.getElem?_eq_getElem _
          obtain ⟨g', o', hA', z0⟩ := (hh.below hb).at hx'
          subst hA'
          have hwx := HWH.out _ (List.mem_of_getElem? hx')
          clear hx'
          go_wp2
          go_meet
          exact ⟨_, rfl, hwx.1, hwx.2, rfl⟩
        · go_wp2
          go_meet
          exact ⟨1, rfl, by omega, by omega, rfl⟩
      case rest =>
        obtain ⟨x, rfl, hx1, hx2, rfl⟩ := hcut
        have HP := Lib.hid (put_any wr w.heap.size ns r x S (by omega) hw hx1 hx2 w.heap.size hb.size hbl)
        go_wp2_with (go_at_call 9; refine HP.out.mono ?_; rintro e1 w1 ⟨b1, ns1, rfl, S1, hl1, hb1, hbl1⟩)
        go_roundw
        case rel => exact ⟨k + 1, by omega, by go_num, ns1, S1, by omega, hb.trans hb1, hbl1⟩
        case measure => simp [intOf]; omega
    · obtain ⟨e, he⟩ : ∃ e, place (rs ns) key seq = e := ⟨_, rfl⟩
      have hel : e ≤ ns.length := by have := place_le (rs ns) key seq; simp only [rs, List.length_map] at this he; omega
      have HWh := Lib.hid (whole_any wr _ 33 #[] ns S (by omega))
      have hco := fun W (hW : Below wr.heap.size wr W) => collect_any W _ 33 #[] ns key seq 200 (S.below hW) (by omega)
      have htk : takeM 200 ((rs ns).drop (place (rs ns) key seq)) = (rs ns).drop e := by
        rw [he]; unfold takeM
        rw [if_neg (by simp [rs]; omega)]
      rw [htk] at hco
      obtain ⟨L2, hL2⟩ : ∃ L2, (rs ns).drop e = L2 := ⟨_, rfl⟩
      obtain ⟨L1, hL1⟩ : ∃ L1, rs ns = L1 := ⟨_, rfl⟩
      have hwhole := whole_any wr _ 33 #[] ns S (by omega)
      have hord := S.ord
      have hlen1 : L1.length ≤ 100 := by rw [← hL1]; simp [rs]; omega
      have hlen2 : L2.length + e = L1.length := by rw [← hL2, ← hL1]; simp [rs]; omega
      have hsub : (L1.length : Int) - (L2.length : Int) = (e : Int) := by omega
      rw [hL2] at hco
      rw [hL1] at hwhole he hL2 hord
      have HWh := Lib.hid hwhole
      have HCo := Lib.hid hco
      have HE := Lib.hid he
      have HL1 := Lib.hid hL1
      have HL2 := Lib.hid hL2
      have HLE := Lib.hid hlen2
      have HORD := Lib.hid hord
      have hel1 : e ≤ L1.length := by omega
      have hel2 : L2.length ≤ L1.length := by omega
      clear hco htk he hL1 hL2 hlen2 hwhole hord
      go_upto_region 13 with (first
        | (go_at_call 19; refine HWh.out.mono ?_; rintro e1 w1 ⟨v1, rfl, hr1, hb1⟩)
        | (go_at_call 13; refine (HCo.out _ (by exact hb1)).mono ?_; rintro e2 w2 ⟨v2, rfl, hr2, hb2⟩
           obtain ⟨A1, c1, rfl, R1⟩ := rows_of_own hr1 rfl
           obtain ⟨A2, c2, rfl, R2⟩ := rows_of_own hr2 rfl))
      have hc1 : L1.length ≤ c1 := by
        rcases hr1.2 with ⟨h1, h2⟩ | ⟨g, cap, cur, h1, _, _, h3, _⟩
        · injection h1 with _ h4 h5; omega
        · injection h1 with _ h4 h5; omega
      have R1' := R1.below hb2
      have hz1 := hb1.size
      have hz2 := hb2.size
      have hbw2 : Below w.heap.size w w2 := (hb.trans (hb1.mono hb.size)).trans (hb2.mono (by have := hb.size; omega))
      have S2 := (S.below hb1).below (hb2.mono (by omega))
      clear hr1 hr2
      go_cut [67] (fun s67 wx => s67 = .bool false ∧ Below w2.heap.size w2 wx)
      case first =>
        by_cases hce : c1 = e
        · subst hce
          have hz : L2.length = 0 := by omega
          have HZ := Lib.hid hz
          have hsm : Calls Try.prog 12 #[.slice A1 0 0, .slice A2 L2.length c2] w2 fun e w' => e = .returned (.bool true) ∧ Below w2.heap.size w2 w' := by
            rw [HZ.out]; exact same_any w2 A1 A2 0 c2 [] (.inl rfl) (.inl rfl) (by simp)
          have HSM := Lib.hid hsm
          clear hz hsm
          go_wp2_with fail
          refine HSM.out.mono ?_
          rintro e3 w3 ⟨rfl, hb3⟩
          go_wp2
          go_meet
          exact ⟨rfl, hb3⟩
        · have HSM := Lib.hid (same_any w2 _ A2 (c1 - e) c2 L2 (by have := R1'.drop e; rw [HL2.out] at this; exact this) R2 (by omega))
          go_wp2_with fail
          rw [show L1.length - e = L2.length by omega]
          refine HSM.out.mono ?_
          rintro e3 w3 ⟨rfl, hb3⟩
          go_wp2
          go_meet
          exact ⟨rfl, hb3⟩
      case rest =>
        obtain ⟨rfl, hb3⟩ := hcut
        obtain ⟨w3, rfl⟩ : ∃ w3, w3 = wc := ⟨_, rfl⟩
        have hbw3 := below_step hbw2 hb3 (Nat.le_refl _)
        have R13 := R1'.below hb3
        have R23 := R2.below hb3
        have S3 := S2.below hb3
        have hnl1 : ns.length = L1.length := by rw [← HL1.out]; simp [rs]
        have HNL := Lib.hid hnl1
        clear R1 R2 R1' hnl1
        go_wp2
        go_loopw [15] (fun v wr => ∃ i : Nat, i ≤ L1.length ∧ v = .int .i64 i ∧ Below w3.heap.size w3 wr) (fun v _ => L1.length - (intOf v).toNat)
        case atStart => exact ⟨0, Nat.zero_le _, rfl, Below.refl _ _⟩
        case round =>
          obtain ⟨i, hi, rfl, hb4⟩ := hrel
          by_cases hil : i < L1.length
          · have hq : L1[i]? = some L1[i] := List.getElem?_eq_getElem hil
            obtain ⟨g, o, rfl, h0, h1, h2, h3⟩ := (R13.below hb4).at hq
            have hah := ord_ah HORD.out (k := key) (s := seq) hq
            have hps := place_self HORD.out hq
            rw [HE.out] at hah
            obtain ⟨r, hrr⟩ : ∃ r, L1[i] = r := ⟨_, rfl⟩
            rw [hrr] at h0 h1 h2 h3 hah hps hq
            have hsk := fun W (hW : Below wr.heap.size wr W) => seek_any W _ 33 #[] ns r.key r.seq ((S3.below hb4).below hW) (by have := HNL.out; omega)
            rw [HL1.out, hps, hq] at hsk
            simp only [seekV, rowC] at hsk
            have HSK := Lib.hid hsk
            have HAH := Lib.hid hah
            clear hq hrr hah hps hsk
            go_upto_region 18 with fail
            go_cut [102] (fun s102 wx => s102 = .bool false ∧ wr = wx)
            case first =>
              have hah := HAH.out
              unfold ah at hah
              cases hbl : Op.bytesLess r.key.toList key.toList with
              | true =>
                have hie : i < e := by simpa [hbl] using hah.symm
                clear hah
                go_wp2
                go_meet
                exact ⟨rfl, rfl⟩
              | false =>
                cases hk : (r.key.toList == key.toList) with
                | false =>
                  have hie : ¬ i < e := by simpa [hbl, hk] using hah.symm
                  clear hah
                  go_wp2
                  go_meet
                  exact ⟨rfl, rfl⟩
                | true =>
                  by_cases hg : seq < r.seq
                  · have hie : i < e := by simpa [hbl, hk, hg] using hah.symm
                    clear hah
                    go_wp2
                    go_meet
                    exact ⟨rfl, rfl⟩
                  · have hie : ¬ i < e := by simpa [hbl, hk, hg] using hah.symm
                    clear hah
                    go_wp2
                    go_meet
                    exact ⟨rfl, rfl⟩
            case rest =>
              obtain ⟨rfl, rfl⟩ := hcut
              have hi1 : (0 : Int) ≤ (i : Int) := by omega
              have hi2 : (i : Int) < (L1.length : Int) := by omega
              have hn0 := World.new_ne wr _ h0
              have hn1 := World.new_ne wr _ h1
              go_upto_region 20 with fail
              go_cut [16, 17] (fun s16 s17 wx => ∃ g5, s16 = .pointer (some ⟨g5, 0, none⟩) ∧ s17 = .bool true ∧ wx.heap[g5]? = some (.cells (rowC r) 27 (0, 0)) ∧ Below wr.heap.size wr wx)
              case first =>
                go_region_held3 (fun w' => w'.cell? ⟨g, o + i * 4, none⟩ = some (.string r.key) ∧ w'.cell? ⟨g, o + i * 4 + 1, none⟩ = some (.int .u64 r.seq))
                  (first | go_keep | exact ⟨cell_on hb5 h0, cell_on hb5 h1⟩ | exact ⟨cell_on hb5 (cell_on (((Below.refl _ _).alloc (Nat.le_refl _) _).drew) h0), cell_on hb5 (cell_on (((Below.refl _ _).alloc (Nat.le_refl _) _).drew) h1)⟩ | exact ⟨cell_on ((Below.refl _ _).alloc (Nat.le_refl _) _) (cell_on hb5 h0), cell_on ((Below.refl _ _).alloc (Nat.le_refl _) _) (cell_on hb5 h1)⟩)
                  (first | (go_at_call 11; refine (HSK.out _ (by first | exact (Below.refl _ _).drew | exact ((Below.refl _ _).alloc (Nat.le_refl _) _).drew | exact (Below.refl _ _).drew.alloc (Nat.le_refl _) _)).mono ?_; rintro e5 w5 ⟨rfl, hb5⟩
                            have hn5 : w5.heap.size ≠ g := by have h6 := block_lt_of_cell h0; have h7 := hb5.size; simp at h7; show w5.heap.size ≠ g; simp at h6; omega
                            try have hz5 := heap_on hb5 (show ((wr.alloc (.cells zeroRow 27)).drew).heap[wr.heap.size]? = _ from heap_alloc_new wr (.cells zeroRow 27))
                            try have k50 : w5.cell? ⟨wr.heap.size, 0, none⟩ = some (.string ⟨#[]⟩) := cell_of hz5 0
                            try have k51 : w5.cell? ⟨wr.heap.size, 1, none⟩ = some (.int .u64 0) := cell_of hz5 1
                            try have k52 : w5.cell? ⟨wr.heap.size, 2, none⟩ = some (.int .i64 0) := cell_of hz5 2
                            try have k53 : w5.cell? ⟨wr.heap.size, 3, none⟩ = some (.string ⟨#[]⟩) := cell_of hz5 3
                            try have f50 : w5.frozen? ⟨wr.heap.size, 0, none⟩ = false := free_of hz5 0
                            try have f51 : w5.frozen? ⟨wr.heap.size, 1, none⟩ = false := free_of hz5 1
                            try have f52 : w5.frozen? ⟨wr.heap.size, 2, none⟩ = false := free_of hz5 2
                            try have f53 : w5.frozen? ⟨wr.heap.size, 3, none⟩ = false := free_of hz5 3))
                · go_wp2
                  go_meet
                  exact ⟨_, rfl, rfl, heap_alloc_new _ _, below_step (below_step (Below.refl _ _).drew hb5 (Nat.le_refl _)) ((Below.refl _ _).alloc (Nat.le_refl _) _) (Nat.le_refl _)⟩
                · go_wp2
                  go_meet
                  exact ⟨_, rfl, rfl, set4 rfl hz5 r, below_set4 (below_step ((Below.refl _ _).alloc (Nat.le_refl _) _).drew hb5 (Nat.le_refl _)) (Nat.le_refl _) r⟩
              case rest =>
                obtain ⟨g5, rfl, rfl, hg5, hb5⟩ := hcut
                obtain ⟨w5, rfl⟩ : ∃ w5, w5 = wc := ⟨_, rfl⟩
                have y0 : w5.cell? ⟨g5, 0, none⟩ = some (.string r.key) := cell_of hg5 0
                have y1 : w5.cell? ⟨g5, 1, none⟩ = some (.int .u64 r.seq) := cell_of hg5 1
                have y2 : w5.cell? ⟨g5, 2, none⟩ = some (.int .i64 r.kind) := cell_of hg5 2
                have y3 : w5.cell? ⟨g5, 3, none⟩ = some (.string r.val) := cell_of hg5 3
                have k0 := cell_on hb5 h0
                have k1 := cell_on hb5 h1
                have k2 := cell_on hb5 h2
                have k3 := cell_on hb5 h3
                clear hg5
                go_wp2
                go_quiet (fail)
                go_wp2
                go_roundw
                case rel => exact ⟨i + 1, by omega, by go_num, below_drewN (below_step hb4 hb5 (Nat.le_refl _)) _⟩
                case measure => simp [intOf]; omega
          · obtain rfl : i = L1.length := by omega
            have hsk := fun W (hW : Below wr.heap.size wr W) => seek_any W _ 33 #[] ns key seq ((S3.below hb4).below hW) (by have := HNL.out; omega)
            have hbw4 := below_step hbw3 hb4 (Nat.le_refl _)
            have R24 := R23.below hb4
            have hLE := HLE.out
            rw [HL1.out, HE.out] at hsk
            cases hL : L2 with
            | nil =>
              have hn : L1[e]? = none := by
                have h1 := congrArg List.length hL
                exact List.getElem?_eq_none (by rw [List.length_nil] at h1; omega)
              rw [hn] at hsk
              simp only [seekV, zeroRow] at hsk
              have HSK := Lib.hid hsk
              clear hsk hn
              have hd : decide ((0 : Int) < (([] : List Rw).length : Int)) = false := rfl
              go_wp2_with (first
                | (go_at_call 11; refine (HSK.out _ (Below.refl _ _)).mono ?_; rintro e5 w5 ⟨rfl, hb5⟩)
                | (refine wpList_store_new rfl 27 _ _ rfl 27 zeroRow zeroRow rfl rfl rfl Try.size27 zeroRow_one ?_; intro W6 hb6 hA6))
              have y0 : W6.cell? ⟨w5.heap.size, 0, none⟩ = some (.string ⟨#[]⟩) := cell_of hA6 0
              have hb56 := below_step (below_step hbw4 hb5 (Nat.le_refl _)) hb6 (Nat.le_refl _)
              clear hA6
              have cA : ∀ d os, Calls Try.prog 7 #[] (Sort.grow (redrawn W6 d) os) fun e w'' => e = .returned (.bool true) ∧ ∃ p : Regrown, w'' = Sort.grow (redrawn W6 p.d) p.os := fun d os => Calls.regrown_of (awake_any _)
              refine wp_region_quiet_below (by kernel_rfl) (by kernel_rfl) ?_
              repeat (go_big_quiet_step (exact cA _ _))
              refine wpQuiet_nil ?_
              intro _ hw'
              obtain ⟨⟨dq, osq⟩, hw''⟩ := hw'
              subst hw''
              go_wp2
              go_ret
              exact ⟨rfl, below_step hb56 (below_regrown W6 dq osq) (Nat.le_refl _)⟩
            | cons r0 L3 =>
              have hn : L1[e]? = some r0 := by
                have h1 : ((L1.drop e)[0]?) = some r0 := by rw [HL2.out, hL]; rfl
                rwa [List.getElem?_drop, Nat.add_zero] at h1
              rw [hn] at hsk
              simp only [seekV, rowC] at hsk
              have HSK := Lib.hid hsk
              have hq : L2[0]? = some r0 := by rw [hL]; rfl
              obtain ⟨g2, o2, rfl, h0, h1, h2, h3⟩ := R24.at hq
              clear hsk hn hq
              have hd : decide ((0 : Int) < ((r0 :: L3).length : Int)) = true := by simp
              go_wp2_with (first
                | (go_at_call 11; refine (HSK.out _ (Below.refl _ _)).mono ?_; rintro e5 w5 ⟨rfl, hb5⟩)
                | (refine wpList_store_new rfl 27 _ _ rfl 27 zeroRow (rowC r0) rfl rfl rfl Try.size27 (rowC_one _) ?_; intro W6 hb6 hA6))
              have y0 : W6.cell? ⟨w5.heap.size, 0, none⟩ = some (.string r0.key) := cell_of hA6 0
              have y1 : W6.cell? ⟨w5.heap.size, 1, none⟩ = some (.int .u64 r0.seq) := cell_of hA6 1
              have y2 : W6.cell? ⟨w5.heap.size, 2, none⟩ = some (.int .i64 r0.kind) := cell_of hA6 2
              have y3 : W6.cell? ⟨w5.heap.size, 3, none⟩ = some (.string r0.val) := cell_of hA6 3
              have hb56 := below_step (below_step hbw4 hb5 (Nat.le_refl _)) hb6 (Nat.le_refl _)
              have g0 := cell_on hb6 (cell_on hb5 h0)
              have g1 := cell_on hb6 (cell_on hb5 h1)
              have g2' := cell_on hb6 (cell_on hb5 h2)
              have g3 := cell_on hb6 (cell_on hb5 h3)
              simp only [Nat.zero_mul, Nat.add_zero] at g0 g1 g2' g3
              clear hA6
              go_region_held3 (fun w' => w'.cell? ⟨w5.heap.size, 0, none⟩ = some (.string r0.key) ∧ w'.cell? ⟨w5.heap.size, 1, none⟩ = some (.int .u64 r0.seq) ∧ w'.cell? ⟨w5.heap.size, 2, none⟩ = some (.int .i64 r0.kind) ∧ w'.cell? ⟨w5.heap.size, 3, none⟩ = some (.string r0.val) ∧
                  w'.cell? ⟨g2, o2, none⟩ = some (.string r0.key) ∧ w'.cell? ⟨g2, o2 + 1, none⟩ = some (.int .u64 r0.seq) ∧ w'.cell? ⟨g2, o2 + 2, none⟩ = some (.int .i64 r0.kind) ∧ w'.cell? ⟨g2, o2 + 3, none⟩ = some (.string r0.val))
                (first | go_keep | exact ⟨cell_on hb7 y0, cell_on hb7 y1, cell_on hb7 y2, cell_on hb7 y3, cell_on hb7 g0, cell_on hb7 g1, cell_on hb7 g2', cell_on hb7 g3⟩)
                (first | (go_at_call 7; refine (awake_any _).mono ?_; rintro e7 w7 ⟨rfl, hb7⟩))
              go_wp2
              go_ret
              exact ⟨rfl, below_step hb56.drew hb7 (Nat.le_refl _)⟩
end Go.Proofs.Ythhdameaihclmaa
