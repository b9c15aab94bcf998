/- Tables of package api in memory; Overlap of package pick and of the document's answers, may, bounds and level of package edit, Check of package pick. Conditions: as each says. -/
import Derived.Test.YthhdameaihclmaaRh
namespace Go.Proofs.Ythhdameaihclmaa
open Go.RowKit Sk

structure Mt where
  num : Int
  size : Int
  rows : Int
  first : ByteArray
  last : ByteArray
  least : Int
  greatest : Int
def mtC (m : Mt) : Array Value := #[.int .u64 m.num, .int .i64 m.size, .int .i64 m.rows, .string m.first, .string m.last, .int .u64 m.least, .int .u64 m.greatest]
def ovB (a b : Mt) : Bool := !Op.bytesLess a.last.toList b.first.toList && !Op.bytesLess b.last.toList a.first.toList

set_option maxHeartbeats 400000 in
theorem over_any (w : World) (a b : Mt) :
    Calls Try.prog 27 #[.agg #[.int .u64 a.num, .int .i64 a.size, .int .i64 a.rows, .string a.first, .string a.last, .int .u64 a.least, .int .u64 a.greatest], .agg #[.int .u64 b.num, .int .i64 b.size, .int .i64 b.rows, .string b.first, .string b.last, .int .u64 b.least, .int .u64 b.greatest]] w fun e w' => e = .returned (.bool (ovB a b)) ∧ Below w.heap.size w w' := by
  obtain ⟨an, asz, ar, af, al, ale, ag⟩ := a
  obtain ⟨bn, bsz, br, bf, bl, ble, bg⟩ := b
  go_enter Try.func27, Try.ntmps27
  go_wp2
  all_goals
    go_ret
    refine ⟨?_, (((Below.refl _ _).alloc (Nat.le_refl _) _).alloc (by simp) _)⟩
    first | (simp [ovB, *]; done) | (simp_all [ovB]; done)
set_option maxHeartbeats 400000 in
theorem overR_any (w : World) (a b : Mt) :
    Calls Try.prog 28 #[.agg #[.int .u64 a.num, .int .i64 a.size, .int .i64 a.rows, .string a.first, .string a.last, .int .u64 a.least, .int .u64 a.greatest], .agg #[.int .u64 b.num, .int .i64 b.size, .int .i64 b.rows, .string b.first, .string b.last, .int .u64 b.least, .int .u64 b.greatest]] w fun e w' => e = .returned (.bool (ovB a b)) ∧ Below w.heap.size w w' := by
  obtain ⟨an, asz, ar, af, al, ale, ag⟩ := a
  obtain ⟨bn, bsz, br, bf, bl, ble, bg⟩ := b
  go_enter Try.func28, Try.ntmps28
  go_wp2
  all_goals
    go_ret
    refine ⟨?_, (((Below.refl _ _).alloc (Nat.le_refl _) _).alloc (by simp) _)⟩
    first | (simp [ovB, *]; done) | (simp_all [ovB]; done)
/-- A table that may be. -/
structure MayOk (m : Mt) : Prop where
  n1 : 1 ≤ m.num
  n2 : m.num < 99999999
  s1 : 1 ≤ m.size
  s2 : m.size ≤ 262144
  r1 : 1 ≤ m.rows
  r2 : m.rows ≤ 262144
  f0 : (m.first.toList == []) = false
  f1 : (m.first.size : Int) ≤ 520
  l1 : (m.last.size : Int) ≤ 520
  le : (Op.bytesLess m.first.toList m.last.toList || m.first.toList == m.last.toList) = true
  a1 : 1 ≤ m.least
  a2 : m.least ≤ m.greatest
  g2 : m.greatest < 72057594037927936
set_option maxHeartbeats 1000000 in
theorem may_any (w : World) (m : Mt) (h : MayOk m) :
    Calls Try.prog 62 #[.agg #[.int .u64 m.num, .int .i64 m.size, .int .i64 m.rows, .string m.first, .string m.last, .int .u64 m.least, .int .u64 m.greatest]] w fun e w' => e = .returned (.bool true) ∧ Below w.heap.size w w' := by
  obtain ⟨an, asz, ar, af, al, ale, ag⟩ := m
  obtain ⟨h1, h2, h3, h4, h5, h6, h7, h8, h9, h10, h11, h12, h13⟩ := h
  simp only at h1 h2 h3 h4 h5 h6 h7 h8 h9 h10 h11 h12 h13
  go_enter Try.func62, Try.ntmps62
  go_wp2
  go_ret
  exact ⟨rfl, (Below.refl _ _).alloc (Nat.le_refl _) _⟩

structure Lv where
  a : Option Addr
  c : Nat
  ms : List Mt
structure Vn where
  log : Int
  next : Int
  seq : Int
  l0 : Lv
  l1 : Lv
  l2 : Lv
  l3 : Lv
def lvS (x : Lv) : Value := .slice x.a x.ms.length x.c
def vnC (v : Vn) : Array Value := #[.int .u64 v.log, .int .u64 v.next, .int .u64 v.seq, lvS v.l0, lvS v.l1, lvS v.l2, lvS v.l3]

set_option maxHeartbeats 1000000 in
theorem bounds_any (w : World) (v : Vn) (h1 : 1 ≤ v.log) (h2 : v.log ≤ 99999999) (h3 : 1 ≤ v.next) (h4 : v.next ≤ 99999999) (h5 : v.seq < 72057594037927936) :
    Calls Try.prog 55 #[.agg (vnC v)] w fun e w' => e = .returned (.bool true) ∧ Below w.heap.size w w' := by
  obtain ⟨lo, ne, sq, l0, l1, l2, l3⟩ := v
  simp only at h1 h2 h3 h4 h5
  unfold vnC
  go_enter Try.func55, Try.ntmps55
  go_wp2
  go_ret
  exact ⟨rfl, (Below.refl _ _).alloc (Nat.le_refl _) _⟩

set_option maxHeartbeats 1000000 in
theorem pcheck_any (w : World) (many base times : Int) (h1 : 1 ≤ many) (h2 : many ≤ 64) (h3 : 1 ≤ base) (h4 : base ≤ 1073741824) (h5 : 1 ≤ times) (h6 : times ≤ 1000) :
    Calls Try.prog 48 #[.agg #[.int .i64 many, .int .i64 base, .int .i64 times]] w fun e w' => e = .returned (.int .i64 0) ∧ Below w.heap.size w w' := by
  go_enter Try.func48, Try.ntmps48
  go_wp2
  go_ret
  exact ⟨rfl, (Below.refl _ _).alloc (Nat.le_refl _) _⟩

set_option maxHeartbeats 1000000 in
theorem level_any (w : World) (n : Int) (h1 : 0 ≤ n) (h2 : n < 4) :
    Calls Try.prog 63 #[.int .i64 n] w fun e w' => e = .returned (.bool true) ∧ w' = w := by
  go_enter Try.func63, Try.ntmps63
  go_wp2
  go_ret
  exact ⟨rfl, rfl⟩
end Go.Proofs.Ythhdameaihclmaa
