/- The library's functions as the evaluator calls them; the reference's Decimal, Cut and Num. -/
import Derived.Test.YtpmpofcokkgfdaaDoorUd
import Derived.Test.YtpmpofcokkgfdaaDoorUc
namespace Go.Proofs.YtpmpofcokkgfdaaDoor.Ev
open Go

def fstN : Nat → ACode → ACode
  | 0, .seq a _ => a
  | n + 1, .seq _ b => fstN n b
  | _, _ => .skip
def sndN : Nat → ACode → ACode
  | 0, c => c
  | n + 1, .seq _ b => sndN n b
  | _, _ => .skip

theorem ev_Itoa (n : Int) (h : -9223372036854775808 ≤ n ∧ n ≤ 9223372036854775807) (m : Mem) : ev tab prim 33 [.int .i64 n] m = some (.str (Lib.itoa n), m) := by
  rw [ev_prim tab prim rfl]
  simp [prim, h]
theorem ev_SplitB (s : List UInt8) (c : UInt8) (hs : s.length < 4294967281) (m : Mem) : ev tab prim 29 [.str s, .str [c]] m = some (.list 1 ((cutB c s).map V.str) true, m) := by
  rw [ev_prim tab prim rfl]
  simp [prim, hs, split_cutB]
theorem ev_JoinB (l : List (List UInt8)) (sep : List UInt8) (h1 : l.length ≤ 140737488355328) (h2 : (Lib.join l sep).length ≤ 140737488355328) (o : Bool) (m : Mem) : ev tab prim 45 [.list 1 (l.map V.str) o, .str sep] m = some (.str (Lib.join l sep), m) := by
  rw [ev_prim tab prim rfl]
  simp [prim, texts_map, h1, h2]
theorem ev_AtoiB (s : List UInt8) (h : s.length ≤ 281474976710656) (m : Mem) : ev tab prim 39 [.str s] m = some (.tup [.int .i64 (atoiV s).1, .ifc (!(atoiV s).2)], m) := by
  rw [ev_prim tab prim rfl]
  simp [prim, h]

def dcSt (s : List UInt8) (u : Nat) (b : List UInt8) (o : Bool) : St := { env := [(3, .int .u64 u), (4, .str s), (5, .list 1 (b.map byteV) o)], mem := [[], [], []] }

set_option maxRecDepth 10000 in
theorem dc_step (s : List UInt8) (u : Nat) (b : List UInt8) (o : Bool) (hu : u < 18446744073709551616) (hb : b.length ≤ 1000) (h : 0 < u ∨ b = []) :
    cv tab prim L28_0 (dcSt s u b o) = some (.normal, dcSt s (u / 10) (UInt8.ofNat (48 + u % 10) :: b) false) := by
  have e1 : IntKind.u64.wrap ((48 : Int) + (u : Int) % 10) = 48 + (u : Int) % 10 := by
    show ((48 : Int) + (u : Int) % 10) % 18446744073709551616 = _; omega
  have e2 : IntKind.u8.wrap ((48 : Int) + (u : Int) % 10) = ((UInt8.ofNat (48 + u % 10)).toNat : Int) := by
    rw [wrap_u8b, UInt8.toNat_ofNat']
    omega
  have b1 : 1 + b.length ≤ 140737488355328 := by omega
  have e4 : (u : Int).tmod 10 = (u : Int) % 10 := Int.tmod_eq_emod_of_nonneg (by omega)
  have e5 : (u : Int).tdiv 10 = (u : Int) / 10 := Int.tdiv_eq_ediv_of_nonneg (by omega)
  have e6 : IntKind.u64.wrap ((u : Int) / 10) = (u : Int) / 10 := by
    show ((u : Int) / 10) % 18446744073709551616 = _; omega
  have e7 : IntKind.u64.wrap ((u : Int) % 10) = (u : Int) % 10 := by
    show ((u : Int) % 10) % 18446744073709551616 = _; omega
  by_cases h0 : 0 < u
  · have g0 : (0 : Int) < (u : Int) := by omega
    unfold dcSt
    simp [L28_0, h0, g0, e1, e2, e4, e5, e6, e7, b1, byteV]
  · have hb0 : b = [] := h.resolve_left h0
    subst hb0
    obtain rfl : u = 0 := by omega
    unfold dcSt
    have w1 : IntKind.u64.wrap 48 = 48 := by decide
    have w2 : IntKind.u8.wrap 48 = 48 := by decide
    have w3 : IntKind.u64.wrap 0 = 0 := by decide
    simp [L28_0, byteV, w1, w2, w3]

theorem dc_loop (s : List UInt8) : ∀ (n u : Nat) (b : List UInt8) (o : Bool), u = n → u < 18446744073709551616 → b.length + Lib.nDigits u ≤ 1000 → (0 < u ∨ b = []) →
    cv tab prim (.loop L28_0) (dcSt s u b o) = some (.exit 0, { env := [(4, .str s), (5, .list 1 ((Lib.decDigits u ++ b).map byteV) false)], mem := [[], [], []] }) := by
  intro n
  induction n using Nat.strongRecOn with
  | ind n ih =>
    intro u b o hn hu hb h
    subst hn
    have hp := Lib.nDigits_pos u
    rw [cv_loop', dc_step s u b o hu (by omega) h]
    simp only [roundK_n]
    by_cases h10 : u < 10
    · rw [dig_small u h10]
      have e1 : u / 10 = 0 := by omega
      have e2 : u % 10 = u := by omega
      rw [e1, e2, cv_loop']
      have hq : ((b.length : Int) + 1 == 0) = false := by rw [beq_eq_false_iff_ne]; omega
      unfold dcSt
      simp [L28_0, hq]
    · rw [ih (u / 10) (by omega) (u / 10) _ _ rfl (by omega) (by rw [Lib.nDigits_big h10] at hb; simp; omega) (.inl (by omega)), dig_step u h10]
      simp

theorem ev_Decimal (n : Int) (h : -9223372036854775808 ≤ n ∧ n ≤ 9223372036854775807) : ev tab prim 28 [.int .i64 n] [[], []] = some (.str (Lib.itoa n), [[], []]) := by
  have hu : ∀ z : Int, IntKind.u64.wrap z = z % 18446744073709551616 := fun z => rfl
  unfold Lib.itoa
  by_cases h0 : n < 0
  · rw [if_pos h0]
    have hL := dc_loop [45] n.natAbs n.natAbs [] true rfl (by omega) (by have := nd_le 19 n.natAbs (by omega); simp; omega) (.inl (by omega))
    have e1 : IntKind.u64.wrap n = n + 18446744073709551616 := by rw [hu]; omega
    have e2 : IntKind.u64.wrap (0 - (n + 18446744073709551616)) = (n.natAbs : Int) := by rw [hu]; omega
    have e2' : IntKind.u64.wrap (-(n + 18446744073709551616)) = (n.natAbs : Int) := by rw [hu]; omega
    have hb := unbyte_map (Lib.decDigits n.natAbs)
    have hl : 1 + (Lib.decDigits n.natAbs).length ≤ 9223372036854775807 := by rw [Lib.decDigits_length]; have := nd_le 19 n.natAbs (by omega); omega
    rw [List.append_nil] at hL
    unfold dcSt at hL
    generalize (Lib.decDigits n.natAbs).map byteV = bs at *
    generalize (n.natAbs : Int) = u at *
    rw [ev_fn' tab prim (f := 28) rfl _ _ rfl]
    simp at hL
    simp [h0, e1, e2, e2', hL, hb, hl]
  · rw [if_neg h0]
    have hL := dc_loop [] n.toNat n.toNat [] true rfl (by omega) (by have := nd_le 19 n.toNat (by omega); simp; omega) (.inr rfl)
    have e1 : IntKind.u64.wrap n = (n.toNat : Int) := by rw [hu]; omega
    have hb := unbyte_map (Lib.decDigits n.toNat)
    have hl : (Lib.decDigits n.toNat).length ≤ 9223372036854775807 := by rw [Lib.decDigits_length]; have := nd_le 19 n.toNat (by omega); omega
    rw [List.append_nil] at hL
    unfold dcSt at hL
    generalize (Lib.decDigits n.toNat).map byteV = bs at *
    generalize (n.toNat : Int) = u at *
    rw [ev_fn' tab prim (f := 28) rfl _ _ rfl]
    simp at hL
    simp [h0, e1, hL, hb, hl]


def cuSt (c : UInt8) (s : List UInt8) (l : List (List UInt8)) (f i : Nat) : St := { env := [(0, .str s), (1, .int .u8 c.toNat), (5, .list 1 (l.map V.str) true), (6, .int .i64 f), (7, .int .i64 i)], mem := [[], [], []] }

def nuSt (lo hi : Int) (w t : List UInt8) (acc i : Nat) : St := { env := [(0, .str w), (1, .int .i64 lo), (2, .int .i64 hi), (8, .str t), (9, .int .i64 acc), (10, .int .i64 i)], mem := [[], [], []] }

end Go.Proofs.YtpmpofcokkgfdaaDoor.Ev
