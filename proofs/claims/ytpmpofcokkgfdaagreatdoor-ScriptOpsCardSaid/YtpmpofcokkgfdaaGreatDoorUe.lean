/- The library's functions as the evaluator calls them; the reference's Decimal, Cut and Num. -/
import Derived.Test.YtpmpofcokkgfdaaGreatDoorUd
import Derived.Test.YtpmpofcokkgfdaaGreatDoorUc
namespace Go.Proofs.YtpmpofcokkgfdaaGreatDoor.Ev
open Go

def fstN : Nat → ACode → ACode
  | 0, .seq a _ => a
  | n + 1, .seq _ b => fstN n b
  | _, _ => .skip
def sndN : Nat → ACode → ACode
  | 0, c => c
  | n + 1, .seq _ b => sndN n b
  | _, _ => .skip

theorem ev_Itoa (n : Int) (h : -9223372036854775808 ≤ n ∧ n ≤ 9223372036854775807) (m : Mem) : ev tab prim 35 [.int .i64 n] m = some (.str (Lib.itoa n), m) := by
  rw [ev_prim tab prim rfl]
  simp [prim, h]
theorem ev_SplitB (s : List UInt8) (c : UInt8) (hs : s.length < 4294967281) (m : Mem) : ev tab prim 15 [.str s, .str [c]] m = some (.list 1 ((cutB c s).map V.str) true, m) := by
  rw [ev_prim tab prim rfl]
  simp [prim, hs, split_cutB]
theorem ev_JoinB (l : List (List UInt8)) (sep : List UInt8) (h1 : l.length ≤ 140737488355328) (h2 : (Lib.join l sep).length ≤ 140737488355328) (o : Bool) (m : Mem) : ev tab prim 45 [.list 1 (l.map V.str) o, .str sep] m = some (.str (Lib.join l sep), m) := by
  rw [ev_prim tab prim rfl]
  simp [prim, texts_map, h1, h2]
theorem ev_AtoiB (s : List UInt8) (h : s.length ≤ 281474976710656) (m : Mem) : ev tab prim 31 [.str s] m = some (.tup [.int .i64 (atoiV s).1, .ifc (!(atoiV s).2)], m) := by
  rw [ev_prim tab prim rfl]
  simp [prim, h]

def dcSt (s : List UInt8) (u : Nat) (b : List UInt8) (o : Bool) : St := { env := [(3, .int .u64 u), (4, .str s), (5, .list 1 (b.map byteV) o)], mem := [[], [], []] }

set_option maxRecDepth 10000 in
theorem dc_step (s : List UInt8) (u : Nat) (b : List UInt8) (o : Bool) (hu : u < 18446744073709551616) (hb : b.length ≤ 1000) (h : 0 < u ∨ b = []) :
    cv tab prim L28_0 (dcSt s u b o) = some (.normal, dcSt s (u / 10) (UInt8.ofNat (48 + u % 10) :: b) false) := by
  have e1 : IntKind.u64.wrap ((48 : Int) + (u : Int) % 10) = 48 + (u : Int) % 10 := by
    show ((48 : Int) + (u : Int) % 10) % 18446744073709551616 = _; omega
  have e2 : IntKind.u8.wrap ((48 : Int) + (u : Int) % 10) = ((UInt8.ofNat (48 + u % 10)).toNat : Int) := by
    rw [wrap_u8b, UInt8.toNat_ofNat']
    omega
  have b1 : 1 + b.length ≤ 140737488355328 := by omega
  have e4 : (u : Int).tmod 10 = (u : Int) % 10 := Int.tmod_eq_emod_of_nonneg (by omega)
  have e5 : (u : Int).tdiv 10 = (u : Int) / 10 := Int.tdiv_eq_ediv_of_nonneg (by omega)
  have e6 : IntKind.u64.wrap ((u : Int) / 10) = (u : Int) / 10 := by
    show ((u : Int) / 10) % 18446744073709551616 = _; omega
  have e7 : IntKind.u64.wrap ((u : Int) % 10) = (u : Int) % 10 := by
    show ((u : Int) % 10) % 18446744073709551616 = _; omega
  by_cases h0 : 0 < u
  · have g0 : (0 : Int) < (u : Int) := by omega
    unfold dcSt
    simp [L28_0, h0, g0, e1, e2, e4, e5, e6, e7, b1, byteV]
  · have hb0 : b = [] := h.resolve_left h0
    subst hb0
    obtain rfl : u = 0 := by omega
    unfold dcSt
    have w1 : IntKind.u64.wrap 48 = 48 := by decide
    have w2 : IntKind.u8.wrap 48 = 48 := by decide
    have w3 : IntKind.u64.wrap 0 = 0 := by decide
    simp [L28_0, byteV, w1, w2, w3]

theorem dc_loop (s : List UInt8) : ∀ (n u : Nat) (b : List UInt8) (o : Bool), u = n → u < 18446744073709551616 → b.length + Lib.nDigits u ≤ 1000 → (0 < u ∨ b = []) →
    cv tab prim (.loop L28_0) (dcSt s u b o) = some (.exit 0, { env := [(4, .str s), (5, .list 1 ((Lib.decDigits u ++ b).map byteV) false)], mem := [[], [], []] }) := by
  intro n
  induction n using Nat.strongRecOn with
  | ind n ih =>
    intro u b o hn hu hb h
    subst hn
    have hp := Lib.nDigits_pos u
    rw [cv_loop', dc_step s u b o hu (by omega) h]
    simp only [roundK_n]
    by_cases h10 : u < 10
    · rw [dig_small u h10]
      have e1 : u / 10 = 0 := by omega
      have e2 : u % 10 = u := by omega
      rw [e1, e2, cv_loop']
      have hq : ((b.length : Int) + 1 == 0) = false := by rw [beq_eq_false_iff_ne]; omega
      unfold dcSt
      simp [L28_0, hq]
    · rw [ih (u / 10) (by omega) (u / 10) _ _ rfl (by omega) (by rw [Lib.nDigits_big h10] at hb; simp; omega) (.inl (by omega)), dig_step u h10]
      simp

theorem ev_Decimal (n : Int) (h : -9223372036854775808 ≤ n ∧ n ≤ 9223372036854775807) : ev tab prim 28 [.int .i64 n] [[], []] = some (.str (Lib.itoa n), [[], []]) := by
  have hu : ∀ z : Int, IntKind.u64.wrap z = z % 18446744073709551616 := fun z => rfl
  unfold Lib.itoa
  by_cases h0 : n < 0
  · rw [if_pos h0]
    have hL := dc_loop [45] n.natAbs n.natAbs [] true rfl (by omega) (by have := nd_le 19 n.natAbs (by omega); simp; omega) (.inl (by omega))
    have e1 : IntKind.u64.wrap n = n + 18446744073709551616 := by rw [hu]; omega
    have e2 : IntKind.u64.wrap (0 - (n + 18446744073709551616)) = (n.natAbs : Int) := by rw [hu]; omega
    have e2' : IntKind.u64.wrap (-(n + 18446744073709551616)) = (n.natAbs : Int) := by rw [hu]; omega
    have hb := unbyte_map (Lib.decDigits n.natAbs)
    have hl : 1 + (Lib.decDigits n.natAbs).length ≤ 9223372036854775807 := by rw [Lib.decDigits_length]; have := nd_le 19 n.natAbs (by omega); omega
    rw [List.append_nil] at hL
    unfold dcSt at hL
    generalize (Lib.decDigits n.natAbs).map byteV = bs at *
    generalize (n.natAbs : Int) = u at *
    rw [ev_fn' tab prim (f := 28) rfl _ _ rfl]
    simp at hL
    simp [h0, e1, e2, e2', hL, hb, hl]
  · rw [if_neg h0]
    have hL := dc_loop [] n.toNat n.toNat [] true rfl (by omega) (by have := nd_le 19 n.toNat (by omega); simp; omega) (.inr rfl)
    have e1 : IntKind.u64.wrap n = (n.toNat : Int) := by rw [hu]; omega
    have hb := unbyte_map (Lib.decDigits n.toNat)
    have hl : (Lib.decDigits n.toNat).length ≤ 9223372036854775807 := by rw [Lib.decDigits_length]; have := nd_le 19 n.toNat (by omega); omega
    rw [List.append_nil] at hL
    unfold dcSt at hL
    generalize (Lib.decDigits n.toNat).map byteV = bs at *
    generalize (n.toNat : Int) = u at *
    rw [ev_fn' tab prim (f := 28) rfl _ _ rfl]
    simp at hL
    simp [h0, e1, hL, hb, hl]


def cuSt (c : UInt8) (s : List UInt8) (l : List (List UInt8)) (f i : Nat) : St := { env := [(0, .str s), (1, .int .u8 c.toNat), (5, .list 1 (l.map V.str) true), (6, .int .i64 f), (7, .int .i64 i)], mem := [[], [], []] }

theorem cutLoop (c : UInt8) (s : List UInt8) (hs : s.length ≤ 100000) : ∀ (n i f : Nat) (l : List (List UInt8)), s.length - i = n → f ≤ i → i ≤ s.length → c ∉ (s.drop f).take (i - f) → l.length + (s.length - i) ≤ 200000 →
    cv tab prim (.loop L20_0) (cuSt c s l f i) = some (.exit 0, { env := [(5, .list 1 ((l ++ cutB c (s.drop f)).map V.str) true)], mem := [[], [], []] }) := by
  have fin : ∀ (l : List (List UInt8)), cv tab prim L20_0 (cuSt c s l (s.length + 1) (s.length + 1)) = some (.exit 0, { env := [(5, .list 1 (l.map V.str) true)], mem := [[], [], []] }) := by
    intro l
    have h1 : ¬ (s.length : Int) + 1 ≤ (s.length : Int) := by omega
    simp [cuSt, L20_0, h1]
  intro n
  induction n with
  | zero =>
    intro i f l hn hf hi hno hl
    obtain rfl : i = s.length := by omega
    have hdf : (s.drop f).take (s.length - f) = s.drop f := List.take_of_length_le (by simp)
    rw [hdf] at hno
    rw [cutB_plain c _ hno]
    have w1 : IntKind.i64.wrap ((s.length : Int) + 1) = (s.length : Int) + 1 := wrap_small (by omega) (by omega)
    have b1 : l.length + 1 ≤ 140737488355328 := by omega
    have b2 : (l.length + 1) * 16 ≤ 140737488355328 := by omega
    have c1 : (f : Int) ≤ (s.length : Int) := by omega
    have hstep : cv tab prim L20_0 (cuSt c s l f s.length) = some (.normal, cuSt c s (l ++ [s.drop f]) (s.length + 1) (s.length + 1)) := by
      simp [cuSt, L20_0, w1, b1, b2, c1, hf]
    rw [cv_loop', hstep, roundK_n, cv_loop', fin, roundK_e]
  | succ n ih =>
    intro i f l hn hf hi hno hl
    have hlt : i < s.length := by omega
    have w1 : IntKind.i64.wrap ((i : Int) + 1) = ((i : Int) + 1) := wrap_small (by omega) (by omega)
    have b1 : l.length + 1 ≤ 140737488355328 := by omega
    have b2 : (l.length + 1) * 16 ≤ 140737488355328 := by omega
    have c1 : (f : Int) ≤ (i : Int) := by omega
    have c2 : (i : Int) ≤ (s.length : Int) := by omega
    have c3 : ((i : Int) == (s.length : Int)) = false := by rw [beq_eq_false_iff_ne]; omega
    have hsp : s.drop f = (s.drop f).take (i - f) ++ s.drop i := by
      have := List.take_append_drop (i - f) (s.drop f)
      rw [List.drop_drop, show f + (i - f) = i by omega] at this
      exact this.symm
    have hdi : s.drop i = s[i] :: s.drop (i + 1) := List.drop_eq_getElem_cons hlt
    by_cases hb : s[i] = c
    · have e1 : ((s[i].toNat : Int) == (c.toNat : Int)) = true := by rw [hb]; simp
      have hcut : cutB c (s.drop f) = (s.drop f).take (i - f) :: cutB c (s.drop (i + 1)) := by
        rw [hdi, hb] at hsp
        conv => lhs; rw [hsp]
        exact cutB_app c _ _ hno
      have hstep : cv tab prim L20_0 (cuSt c s l f i) = some (.normal, cuSt c s (l ++ [(s.drop f).take (i - f)]) (i + 1) (i + 1)) := by
        simp [cuSt, L20_0, w1, b1, b2, c1, c2, c3, hf, hlt, idxOk, e1, List.drop_take]
      rw [cv_loop', hstep, roundK_n, hcut, ih (i + 1) (i + 1) _ (by omega) (Nat.le_refl _) (by omega) (by simp) (by simp; omega)]
      simp
    · have e1 : ((s[i].toNat : Int) == (c.toNat : Int)) = false := by
        rw [beq_eq_false_iff_ne]; intro h2; exact hb (UInt8.toNat_inj.1 (by omega))
      have hstep : cv tab prim L20_0 (cuSt c s l f i) = some (.normal, cuSt c s l f (i + 1)) := by
        simp [cuSt, L20_0, w1, c1, c2, c3, hf, hlt, idxOk, e1]
      rw [cv_loop', hstep, roundK_n, ih (i + 1) f l (by omega) (by omega) (by omega) ?_ (by omega)]
      rw [show i + 1 - f = (i - f) + 1 by omega, List.take_add_one, List.getElem?_drop, show f + (i - f) = i by omega, List.getElem?_eq_getElem hlt]
      simp only [Option.toList_some, List.mem_append, List.mem_singleton, not_or]
      exact ⟨hno, fun h2 => hb h2.symm⟩

theorem ev_Cut (c : UInt8) (s : List UInt8) (hs : s.length ≤ 100000) : ev tab prim 20 [.str s, .int .u8 c.toNat] [[], []] = some (.list 1 ((cutB c s).map V.str) true, [[], []]) := by
  have h := cutLoop c s hs s.length 0 0 [] rfl (Nat.le_refl _) (Nat.zero_le _) (by simp) (by simp; omega)
  unfold cuSt at h
  rw [List.nil_append, List.drop_zero] at h
  generalize (cutB c s).map V.str = cs at *
  rw [ev_fn' tab prim (f := 20) rfl _ _ rfl]
  simp at h
  simp [h]


def nuSt (lo hi : Int) (w t : List UInt8) (acc i : Nat) : St := { env := [(0, .str w), (1, .int .i64 lo), (2, .int .i64 hi), (8, .str t), (9, .int .i64 acc), (10, .int .i64 i)], mem := [[], [], []] }

theorem numLoop (lo hi : Int) (w t : List UInt8) (ht : t.length ≤ 12) : ∀ (n i acc : Nat), t.length - i = n → i ≤ t.length → acc < 10 ^ i →
    cv tab prim (.loop L22_0) (nuSt lo hi w t acc i) = if (t.drop i).all isDig = true then some (.exit 0, { env := [(0, .str w), (1, .int .i64 lo), (2, .int .i64 hi), (9, .int .i64 (digN acc (t.drop i)))], mem := [[], [], []] })
      else some (.ret, { env := [(6, .int .i64 0), (7, .bool false)], mem := [[], [], []] }) := by
  intro n
  induction n with
  | zero =>
    intro i acc hn hle ha
    obtain rfl : i = t.length := by omega
    clear ha
    rw [List.drop_length, if_pos (show ([] : List UInt8).all isDig = true from rfl), cv_loop']
    have e : digN acc [] = acc := rfl
    rw [e]
    simp [nuSt, L22_0]
  | succ n ih =>
    intro i acc hn hle ha
    have hlt : i < t.length := by omega
    have hdi : t.drop i = t[i] :: t.drop (i + 1) := List.drop_eq_getElem_cons hlt
    have ha2 : acc < 100000000000 := Nat.lt_of_lt_of_le ha (Nat.pow_le_pow_right (by decide) (show i ≤ 11 by omega))
    have hb := t[i].toNat_lt
    have w1 : IntKind.i64.wrap ((i : Int) + 1) = ((i : Int) + 1) := wrap_small (by omega) (by omega)
    rw [hdi, List.all_cons]
    by_cases hd : isDig t[i] = true
    · have hd' := hd
      simp only [isDig, Bool.and_eq_true, decide_eq_true_eq] at hd'
      have e1 : ¬ (t[i].toNat : Int) < 48 := by omega
      have e2 : ¬ (57 : Int) < (t[i].toNat : Int) := by omega
      have w2 : IntKind.u8.wrap ((t[i].toNat : Int) - 48) = (t[i].toNat : Int) - 48 := by rw [wrap_u8b]; omega
      have w3 : IntKind.i64.wrap ((t[i].toNat : Int) - 48) = (t[i].toNat : Int) - 48 := wrap_small (by omega) (by omega)
      have w4 : IntKind.i64.wrap (10 * (acc : Int)) = 10 * (acc : Int) := wrap_small (by omega) (by omega)
      have w5 : IntKind.i64.wrap (10 * (acc : Int) + ((t[i].toNat : Int) - 48)) = ((10 * acc + (t[i].toNat - 48) : Nat) : Int) := by
        rw [wrap_small (by omega) (by omega)]; omega
      have hstep : cv tab prim L22_0 (nuSt lo hi w t acc i) = some (.normal, nuSt lo hi w t (10 * acc + (t[i].toNat - 48)) (i + 1)) := by
        unfold nuSt
        generalize ((10 * acc + (t[i].toNat - 48) : Nat) : Int) = z at *
        simp [L22_0, hlt, idxOk, e1, e2, w1, w2, w3, w4, w5]
      rw [cv_loop', hstep, roundK_n, ih (i + 1) _ (by omega) (by omega) (by rw [Nat.pow_succ]; generalize 10 ^ i = q at *; omega), hd, Bool.true_and]
      rfl
    · have hd' : isDig t[i] = false := by simpa using hd
      have hd2 : ¬ (48 ≤ t[i].toNat ∧ t[i].toNat ≤ 57) := by
        intro h; apply hd; simp [isDig, h]
      rw [hd', Bool.false_and, if_neg (by decide)]
      have hstep : cv tab prim L22_0 (nuSt lo hi w t acc i) = some (.ret, { env := [(6, .int .i64 0), (7, .bool false)], mem := [[], [], []] }) := by
        unfold nuSt
        by_cases e1 : (t[i].toNat : Int) < 48
        · simp [L22_0, hlt, idxOk, e1]
        · have e2 : (57 : Int) < (t[i].toNat : Int) := by omega
          simp [L22_0, hlt, idxOk, e1, e2]
      rw [cv_loop', hstep, roundK_r]

theorem ev_Num (lo hi : Int) (w : List UInt8) : ev tab prim 22 [.str w, .int .i64 lo, .int .i64 hi] [[], []] = some (.tup [.int .i64 (numV lo hi w).1, .bool (numV lo hi w).2], [[], []]) := by
  -- the first sign
  have hT : ∀ rest, cv tab prim (.seq (fstN 2 A22.body) rest) { env := [(0, .str w), (1, .int .i64 lo), (2, .int .i64 hi), (8, .str w)], mem := [[], [], []] } =
      cv tab prim rest { env := [(0, .str w), (1, .int .i64 lo), (2, .int .i64 hi), (8, .str (numT w))], mem := [[], [], []] } := by
    intro rest
    unfold numT
    by_cases h1 : 1 < w.length
    · have h1' : (1 : Int) < (w.length : Int) := by omega
      have h0 : 0 < w.length := by omega
      have hh : w.headD 0 = w[0] := by
        cases w with
        | nil => simp at h0
        | cons b r => rfl
      by_cases h2 : w[0] = 45
      · rw [if_pos ⟨h1, by rw [hh]; exact h2⟩]
        have e1 : ((w[0].toNat : Int) == 45) = true := by rw [h2]; rfl
        have e2 : (1 : Int) ≤ (w.length : Int) := by omega
        simp [fstN, A22, h1', h0, idxOk, e1, e2]
      · rw [if_neg (fun h => h2 (by rw [← hh]; exact h.2))]
        have e1 : ((w[0].toNat : Int) == 45) = false := by
          rw [beq_eq_false_iff_ne]; intro h3; exact h2 (UInt8.toNat_inj.1 (by show w[0].toNat = 45; omega))
        simp [fstN, A22, h1', h0, idxOk, e1]
    · rw [if_neg (fun h => h1 h.1)]
      have h1' : ¬ (1 : Int) < (w.length : Int) := by omega
      simp [fstN, A22, h1']
  have h01 : ∀ rest, cv tab prim (.seq (fstN 0 A22.body) (.seq (fstN 1 A22.body) rest)) { env := [(0, .str w), (1, .int .i64 lo), (2, .int .i64 hi)], mem := [[], [], []] } = cv tab prim rest { env := [(0, .str w), (1, .int .i64 lo), (2, .int .i64 hi), (8, .str w)], mem := [[], [], []] } := by
    intro rest
    simp [fstN, A22]
  have hb : A22.body = .seq (fstN 0 A22.body) (.seq (fstN 1 A22.body) (.seq (fstN 2 A22.body) (sndN 3 A22.body))) := rfl
  have hrun : cv tab prim A22.body { env := [(0, .str w), (1, .int .i64 lo), (2, .int .i64 hi)], mem := [[], [], []] } = cv tab prim (sndN 3 A22.body) { env := [(0, .str w), (1, .int .i64 lo), (2, .int .i64 hi), (8, .str (numT w))], mem := [[], [], []] } :=
    (congrArg (fun c => cv tab prim c _) hb).trans ((h01 _).trans (hT _))
  have hgo : ∀ (v : Int) (ok : Bool), (numV lo hi w).1 = v → (numV lo hi w).2 = ok →
      cv tab prim (sndN 3 A22.body) { env := [(0, .str w), (1, .int .i64 lo), (2, .int .i64 hi), (8, .str (numT w))], mem := [[], [], []] } = some (.ret, { env := [(6, .int .i64 v), (7, .bool ok)], mem := [[], [], []] }) →
      ev tab prim 22 [.str w, .int .i64 lo, .int .i64 hi] [[], []] = some (.tup [.int .i64 (numV lo hi w).1, .bool (numV lo hi w).2], [[], []]) := by
    intro v ok e1 e2 h
    rw [e1, e2, ev_fn' tab prim (f := 22) rfl _ _ rfl]
    show finK [.a (.t 6), .a (.t 7)] (cv tab prim A22.body { env := [(0, .str w), (1, .int .i64 lo), (2, .int .i64 hi)], mem := [[], [], []] }) = _
    rw [hrun, h]
    simp
  clear hT h01 hb hrun
  have hL := numLoop lo hi w (numT w)
  have hnok : numOk lo hi w = false → (numV lo hi w).1 = 0 ∧ (numV lo hi w).2 = false := fun h => by unfold numV; rw [h]; exact ⟨rfl, rfl⟩
  by_cases h1 : (numT w).isEmpty = true
  · have hn := hnok (by unfold numOk; rw [h1]; rfl)
    refine hgo 0 false hn.1 hn.2 ?_
    have h1' : numT w = [] := by simpa using h1
    rw [h1']
    simp [sndN, A22]
  have h1f : (numT w).isEmpty = false := by simpa using h1
  by_cases h2 : 12 < (numT w).length
  · have hn := hnok (by unfold numOk; rw [decide_eq_false (by omega : ¬ (numT w).length ≤ 12)]; simp)
    refine hgo 0 false hn.1 hn.2 ?_
    have h2' : (12 : Int) < ((numT w).length : Int) := by omega
    generalize numT w = t at *
    simp [sndN, A22, h1f, h2']
  have h2' : ¬ (12 : Int) < ((numT w).length : Int) := by omega
  have hLp := hL (by omega) (numT w).length 0 0 rfl (Nat.zero_le _) (by decide)
  rw [List.drop_zero] at hLp
  unfold nuSt at hLp
  by_cases h3 : (numT w).all isDig = true
  · rw [if_pos h3] at hLp
    have hlt := digN_lt (numT w) 0 0 (List.all_eq_true.1 h3) (by decide)
    have hlt2 : digN 0 (numT w) < 10 ^ 12 := Nat.lt_of_lt_of_le hlt (Nat.pow_le_pow_right (by decide) (by omega))
    have hlt3 : digN 0 (numT w) < 1000000000000 := hlt2
    clear hlt hlt2
    have hw0 : 0 < w.length := by
      cases w with
      | nil => exfalso; simp [numT] at h1
      | cons b r => simp
    have hh : w.headD 0 = w[0] := by
      cases w with
      | nil => simp at hw0
      | cons b r => rfl
    have hnr : -9223372036854775808 ≤ numN w ∧ numN w ≤ 9223372036854775807 := by unfold numN; split <;> omega
    have hD := ev_Decimal (numN w) hnr
    have hok : numOk lo hi w = ((Lib.itoa (numN w) == w) && (decide (lo ≤ numN w) && decide (numN w ≤ hi))) := by
      unfold numOk
      rw [h1f, h3, decide_eq_true (by omega : (numT w).length ≤ 12)]
      simp
    have hneg : (((w[0].toNat : Int) == 45) = true ∧ IntKind.i64.wrap (0 - (digN 0 (numT w) : Int)) = numN w ∧ IntKind.i64.wrap (-(digN 0 (numT w) : Int)) = numN w) ∨ (((w[0].toNat : Int) == 45) = false ∧ (digN 0 (numT w) : Int) = numN w) := by
      unfold numN
      rw [hh]
      by_cases h4 : w[0] = 45
      · rw [if_pos h4]
        refine .inl ⟨by rw [h4]; rfl, ?_, wrap_small (by omega) (by omega)⟩
        rw [wrap_small (by omega) (by omega)]; omega
      · rw [if_neg h4]
        exact .inr ⟨by rw [beq_eq_false_iff_ne]; intro h3; exact h4 (UInt8.toNat_inj.1 (by show w[0].toNat = 45; omega)), rfl⟩
    have hbne : ∀ a b : List UInt8, (a != b) = !(a == b) := fun _ _ => rfl
    have hfin : ∀ (v : Int) (ok : Bool), (numV lo hi w).1 = v → (numV lo hi w).2 = ok → cv tab prim (sndN 3 A22.body) { env := [(0, .str w), (1, .int .i64 lo), (2, .int .i64 hi), (8, .str (numT w))], mem := [[], [], []] } = some (.ret, { env := [(6, .int .i64 v), (7, .bool ok)], mem := [[], [], []] }) := by
      intro v ok e1 e2
      unfold numV at e1 e2
      rw [hok] at e1 e2
      generalize numN w = z at *
      generalize numT w = t at *
      generalize (digN 0 t : Int) = dn at *
      cases hq : (Lib.itoa z == w) with
      | false =>
        rw [hq] at e1 e2
        simp at e1 e2
        subst e1 e2
        simp at hLp
        rcases hneg with ⟨g1, g2, g3⟩ | ⟨g1, g2⟩
        · simp [sndN, A22, h1f, h2', hLp, hw0, idxOk, g1, g2, g3, hD, hbne, hq]
        · subst g2
          simp [sndN, A22, h1f, h2', hLp, hw0, idxOk, g1, hD, hbne, hq]
      | true =>
        rw [hq] at e1 e2
        simp at hLp
        by_cases g5 : lo ≤ z
        · have g5' : ¬ z < lo := by omega
          by_cases g6 : z ≤ hi
          · have g6' : ¬ hi < z := by omega
            simp [g5, g6] at e1 e2
            subst e1 e2
            rcases hneg with ⟨g1, g2, g3⟩ | ⟨g1, g2⟩
            · simp [sndN, A22, h1f, h2', hLp, hw0, idxOk, g1, g2, g3, hD, hbne, hq, g5', g6']
            · subst g2
              simp [sndN, A22, h1f, h2', hLp, hw0, idxOk, g1, hD, hbne, hq, g5', g6']
          · have g6' : hi < z := by omega
            simp [g5, g6] at e1 e2
            subst e1 e2
            rcases hneg with ⟨g1, g2, g3⟩ | ⟨g1, g2⟩
            · simp [sndN, A22, h1f, h2', hLp, hw0, idxOk, g1, g2, g3, hD, hbne, hq, g5', g6']
            · subst g2
              simp [sndN, A22, h1f, h2', hLp, hw0, idxOk, g1, hD, hbne, hq, g5', g6']
        · have g5' : z < lo := by omega
          simp [g5] at e1 e2
          subst e1 e2
          rcases hneg with ⟨g1, g2, g3⟩ | ⟨g1, g2⟩
          · simp [sndN, A22, h1f, h2', hLp, hw0, idxOk, g1, g2, g3, hD, hbne, hq, g5']
          · subst g2
            simp [sndN, A22, h1f, h2', hLp, hw0, idxOk, g1, hD, hbne, hq, g5']
    exact hgo _ _ rfl rfl (hfin _ _ rfl rfl)
  · have h3' : (numT w).all isDig = false := by simpa using h3
    rw [if_neg h3] at hLp
    have hn := hnok (by unfold numOk; rw [h3']; simp)
    refine hgo 0 false hn.1 hn.2 ?_
    generalize numT w = t at *
    simp at hLp
    simp [sndN, A22, h1f, h2', hLp]


end Go.Proofs.YtpmpofcokkgfdaaGreatDoor.Ev
