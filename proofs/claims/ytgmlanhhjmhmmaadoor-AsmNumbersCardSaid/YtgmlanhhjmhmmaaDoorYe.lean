/- The reference's Decimal is strconv.Itoa; its Line is asm.Line. -/
import Derived.Test.YtgmlanhhjmhmmaaDoorYd
namespace Go.Proofs.YtgmlanhhjmhmmaaDoor.Ev
open Go

theorem dig_step (u : Nat) (h : ¬ u < 10) : Lib.decDigits u = Lib.decDigits (u / 10) ++ [UInt8.ofNat (48 + u % 10)] := by
  rw [Lib.decDigits, dif_neg h]
theorem dig_small (u : Nat) (h : u < 10) : Lib.decDigits u = [UInt8.ofNat (48 + u)] := by
  rw [Lib.decDigits, dif_pos h]

def dcSt (s : List UInt8) (u : Nat) (b : List UInt8) (o : Bool) : St := { env := [(3, .int .u64 u), (4, .str s), (5, .list 1 (b.map byteV) o)], mem := [[], [], []] }

set_option maxRecDepth 10000 in
theorem dc_step (s : List UInt8) (u : Nat) (b : List UInt8) (o : Bool) (hu : u < 18446744073709551616) (hb : b.length ≤ 1000) (h : 0 < u ∨ b = []) :
    cv tab prim L14_0 (dcSt s u b o) = some (.normal, dcSt s (u / 10) (UInt8.ofNat (48 + u % 10) :: b) false) := by
  have e1 : IntKind.u64.wrap ((48 : Int) + (u : Int) % 10) = 48 + (u : Int) % 10 := by
    show ((48 : Int) + (u : Int) % 10) % 18446744073709551616 = _; omega
  have e2 : IntKind.u8.wrap ((48 : Int) + (u : Int) % 10) = ((UInt8.ofNat (48 + u % 10)).toNat : Int) := by
    rw [wrap_u8b, UInt8.toNat_ofNat']
    omega
  have b1 : 1 + b.length ≤ 140737488355328 := by omega
  have e4 : (u : Int).tmod 10 = (u : Int) % 10 := Int.tmod_eq_emod_of_nonneg (by omega)
  have e5 : (u : Int).tdiv 10 = (u : Int) / 10 := Int.tdiv_eq_ediv_of_nonneg (by omega)
  have e6 : IntKind.u64.wrap ((u : Int) / 10) = (u : Int) / 10 := by
    show ((u : Int) / 10) % 18446744073709551616 = _; omega
  have e7 : IntKind.u64.wrap ((u : Int) % 10) = (u : Int) % 10 := by
    show ((u : Int) % 10) % 18446744073709551616 = _; omega
  by_cases h0 : 0 < u
  · have g0 : (0 : Int) < (u : Int) := by omega
    unfold dcSt
    simp [L14_0, h0, g0, e1, e2, e4, e5, e6, e7, b1, byteV]
  · have hb0 : b = [] := h.resolve_left h0
    subst hb0
    obtain rfl : u = 0 := by omega
    unfold dcSt
    have w1 : IntKind.u64.wrap 48 = 48 := by decide
    have w2 : IntKind.u8.wrap 48 = 48 := by decide
    have w3 : IntKind.u64.wrap 0 = 0 := by decide
    simp [L14_0, byteV, w1, w2, w3]

theorem dc_loop (s : List UInt8) : ∀ (n u : Nat) (b : List UInt8) (o : Bool), u = n → u < 18446744073709551616 → b.length + Lib.nDigits u ≤ 1000 → (0 < u ∨ b = []) →
    cv tab prim (.loop L14_0) (dcSt s u b o) = some (.exit 0, { env := [(4, .str s), (5, .list 1 ((Lib.decDigits u ++ b).map byteV) false)], mem := [[], [], []] }) := by
  intro n
  induction n using Nat.strongRecOn with
  | ind n ih =>
    intro u b o hn hu hb h
    subst hn
    have hp := Lib.nDigits_pos u
    rw [cv_loop', dc_step s u b o hu (by omega) h]
    simp only [roundK_n]
    by_cases h10 : u < 10
    · rw [dig_small u h10]
      have e1 : u / 10 = 0 := by omega
      have e2 : u % 10 = u := by omega
      rw [e1, e2, cv_loop']
      have hq : ((b.length : Int) + 1 == 0) = false := by rw [beq_eq_false_iff_ne]; omega
      unfold dcSt
      simp [L14_0, hq]
    · rw [ih (u / 10) (by omega) (u / 10) _ _ rfl (by omega) (by rw [Lib.nDigits_big h10] at hb; simp; omega) (.inl (by omega)), dig_step u h10]
      simp

theorem nd_le : ∀ k u : Nat, u < 10 ^ (k + 1) → Lib.nDigits u ≤ k + 1
  | 0, u, hu => by rw [Lib.nDigits_small (by simpa using hu)]; exact Nat.le_refl _
  | k + 1, u, hu => by
    by_cases h : u < 10
    · rw [Lib.nDigits_small h]; omega
    · rw [Lib.nDigits_big h]
      have := nd_le k (u / 10) (by rw [Nat.pow_succ] at hu; omega)
      omega

theorem unbyte_map : ∀ r : List UInt8, unbyte (r.map byteV) = some r
  | [] => rfl
  | x :: r => by
    rw [List.map_cons, byteV, unbyte, unbyte_map r]
    simp

theorem ev_Decimal (n : Int) (h : -9223372036854775808 ≤ n ∧ n ≤ 9223372036854775807) : ev tab prim 14 [.int .i64 n] [[], []] = some (.str (Lib.itoa n), [[], []]) := by
  have hu : ∀ z : Int, IntKind.u64.wrap z = z % 18446744073709551616 := fun z => rfl
  unfold Lib.itoa
  by_cases h0 : n < 0
  · rw [if_pos h0]
    have hL := dc_loop [45] n.natAbs n.natAbs [] true rfl (by omega) (by have := nd_le 19 n.natAbs (by omega); simp; omega) (.inl (by omega))
    have e1 : IntKind.u64.wrap n = n + 18446744073709551616 := by rw [hu]; omega
    have e2 : IntKind.u64.wrap (0 - (n + 18446744073709551616)) = (n.natAbs : Int) := by rw [hu]; omega
    have e2' : IntKind.u64.wrap (-(n + 18446744073709551616)) = (n.natAbs : Int) := by rw [hu]; omega
    have hb := unbyte_map (Lib.decDigits n.natAbs)
    have hl : 1 + (Lib.decDigits n.natAbs).length ≤ 9223372036854775807 := by rw [Lib.decDigits_length]; have := nd_le 19 n.natAbs (by omega); omega
    rw [List.append_nil] at hL
    unfold dcSt at hL
    generalize (Lib.decDigits n.natAbs).map byteV = bs at *
    generalize (n.natAbs : Int) = u at *
    rw [ev_fn' tab prim (f := 14) rfl _ _ rfl]
    simp at hL
    simp [h0, e1, e2, e2', hL, hb, hl]
  · rw [if_neg h0]
    have hL := dc_loop [] n.toNat n.toNat [] true rfl (by omega) (by have := nd_le 19 n.toNat (by omega); simp; omega) (.inr rfl)
    have e1 : IntKind.u64.wrap n = (n.toNat : Int) := by rw [hu]; omega
    have hb := unbyte_map (Lib.decDigits n.toNat)
    have hl : (Lib.decDigits n.toNat).length ≤ 9223372036854775807 := by rw [Lib.decDigits_length]; have := nd_le 19 n.toNat (by omega); omega
    rw [List.append_nil] at hL
    unfold dcSt at hL
    generalize (Lib.decDigits n.toNat).map byteV = bs at *
    generalize (n.toNat : Int) = u at *
    rw [ev_fn' tab prim (f := 14) rfl _ _ rfl]
    simp at hL
    simp [h0, e1, hL, hb, hl]

/-! ### The reference's Line -/
def nW (b : Bool) (n : Int) : List UInt8 := bif b then 32 :: Lib.itoa n else []
def tW (b : Bool) (s : List UInt8) : List UInt8 := bif b then 32 :: s else []

def r0 (X S : List V) (s : List UInt8) (es : List V) (i : Nat) : St := { env := [(1, .cptr X), (3, .cptr S), (5, .str s), (6, .list 1 es false), (7, .int .i64 i)], mem := [[], [], []] }

theorem ref0_step (X S : List V) (F : Bool) (R : List V) (s : List UInt8) (es : List V) (i : Nat) (hi : i < 2) (n : Int) (hn : -9223372036854775808 ≤ n ∧ n ≤ 9223372036854775807) (hs : s.length ≤ 10000)
    (he : es[i]? = some (.int .i64 n)) (hl : es.length = 2) (hF : S.drop i = .bool F :: R) :
    cv tab prim L12_0 (r0 X S s es i) =
      if (!F || int32 n) = true then some (.normal, r0 X S (s ++ nW F n) es (i + 1)) else some (.ret, { env := [(2, .str [])], mem := [[], [], []] }) := by
  have i1 := ev_int32s n
  have i2 := ev_Decimal n hn
  have i3 := itoa_len n hn
  have w1 : IntKind.i64.wrap ((i : Int) + 1) = ((i + 1 : Nat) : Int) := by rw [wrap_small] <;> omega
  have b3' : (i : Int) < 2 := by omega
  have b4' : idxOk (i : Int) 2 = true := by simp [idxOk]; omega
  have b5' : idxOk (i : Int) 5 = true := by simp [idxOk]; omega
  have l1 : s.length + 1 ≤ 9223372036854775807 := by omega
  have l2 : s.length + (1 + (Lib.itoa n).length) ≤ 9223372036854775807 := by omega
  have l3 : s.length + 1 + (Lib.itoa n).length ≤ 9223372036854775807 := by omega
  unfold r0
  cases F with
  | false => simp [L12_0, b3', b5', hF, w1, nW]
  | true =>
    cases hq : int32 n with
    | false =>
      rw [hq] at i1
      simp [L12_0, b3', b4', b5', hF, he, hl, i1]
    | true =>
      rw [hq] at i1
      simp [L12_0, b3', b4', b5', hF, he, hl, w1, i1, i2, l1, l2, l3, nW]

theorem ref0 (X : List V) (A B : Bool) (R : List V) (a b : Int) (ha : -9223372036854775808 ≤ a ∧ a ≤ 9223372036854775807) (hb : -9223372036854775808 ≤ b ∧ b ≤ 9223372036854775807) (s : List UInt8) (hs : s.length ≤ 3000) :
    cv tab prim (.loop L12_0) (r0 X (.bool A :: .bool B :: R) s [.int .i64 a, .int .i64 b] 0) =
      if ((!A || int32 a) && (!B || int32 b)) = true then some (.exit 0, { env := [(1, .cptr X), (3, .cptr (.bool A :: .bool B :: R)), (5, .str (s ++ nW A a ++ nW B b))], mem := [[], [], []] }) else some (.ret, { env := [(2, .str [])], mem := [[], [], []] }) := by
  have hA : (s ++ nW A a).length ≤ 10000 := by
    have := itoa_len a ha
    cases A <;> simp [nW] <;> omega
  have s0 := ref0_step X (.bool A :: .bool B :: R) A (.bool B :: R) s [.int .i64 a, .int .i64 b] 0 (by omega) a ha (by omega) rfl rfl rfl
  have s1 := ref0_step X (.bool A :: .bool B :: R) B R (s ++ nW A a) [.int .i64 a, .int .i64 b] 1 (by omega) b hb hA rfl rfl rfl
  have s2 : cv tab prim L12_0 (r0 X (.bool A :: .bool B :: R) (s ++ nW A a ++ nW B b) [.int .i64 a, .int .i64 b] 2) = some (.exit 0, { env := [(1, .cptr X), (3, .cptr (.bool A :: .bool B :: R)), (5, .str (s ++ nW A a ++ nW B b))], mem := [[], [], []] }) := by
    simp [r0, L12_0]
  rw [cv_loop', s0]
  cases hq : (!A || int32 a) with
  | false => rw [if_neg (by decide), Bool.false_and, if_neg (by decide), roundK_r]
  | true =>
    rw [if_pos rfl, Bool.true_and, roundK_n, cv_loop', s1]
    cases hq2 : (!B || int32 b) with
    | false => rw [if_neg (by decide), if_neg (by decide), roundK_r]
    | true => rw [if_pos rfl, if_pos rfl, roundK_n, cv_loop', s2, roundK_e]

def r1 (S : List V) (s : List UInt8) (es : List V) (i : Nat) : St := { env := [(3, .cptr S), (5, .str s), (8, .list 1 es false), (9, .int .i64 i)], mem := [[], [], []] }

theorem ref1_step (S : List V) (F : Bool) (R : List V) (s : List UInt8) (es : List V) (i : Nat) (hi : i < 3) (n : List UInt8) (hn : n.length ≤ 2000) (hs : s.length ≤ 20000)
    (he : es[i]? = some (.str n)) (hl : es.length = 3) (hF : S.drop (2 + i) = .bool F :: R) :
    cv tab prim L12_1 (r1 S s es i) =
      if (!F || plainT n) = true then some (.normal, r1 S (s ++ tW F n) es (i + 1)) else some (.ret, { env := [(2, .str [])], mem := [[], [], []] }) := by
  have i1 := ev_plain n (by omega)
  have w1 : IntKind.i64.wrap ((i : Int) + 1) = ((i + 1 : Nat) : Int) := by rw [wrap_small] <;> omega
  have w2 : IntKind.i64.wrap (2 + (i : Int)) = ((2 + i : Nat) : Int) := by
    have w2a : IntKind.i64.wrap (2 + (i : Int)) = 2 + (i : Int) := wrap_small (by omega) (by omega)
    rw [w2a]; omega
  have b3' : (i : Int) < 3 := by omega
  have b4' : idxOk (i : Int) 3 = true := by simp [idxOk]; omega
  have b5' : idxOk ((2 + i : Nat) : Int) 5 = true := by simp [idxOk]; omega
  have l1 : s.length + 1 ≤ 9223372036854775807 := by omega
  have l2 : s.length + (1 + n.length) ≤ 9223372036854775807 := by omega
  have l3 : s.length + 1 + n.length ≤ 9223372036854775807 := by omega
  have hz : ((2 + i : Nat) : Int).toNat = 2 + i := by omega
  unfold r1
  generalize hk : ((2 + i : Nat) : Int) = k at *
  cases F with
  | false => simp [L12_1, b3', b5', hF, w1, w2, hz, tW]
  | true =>
    cases hq : plainT n with
    | false =>
      rw [hq] at i1
      simp [L12_1, b3', b4', b5', hF, he, hl, w2, hz, i1]
    | true =>
      rw [hq] at i1
      simp [L12_1, b3', b4', b5', hF, he, hl, w1, w2, hz, i1, l1, l2, l3, tW]

theorem ref1 (P Q A B D : Bool) (a b d : List UInt8) (ha : a.length ≤ 2000) (hb : b.length ≤ 2000) (hd : d.length ≤ 2000) (s : List UInt8) (hs : s.length ≤ 10000) :
    cv tab prim (.loop L12_1) (r1 [.bool P, .bool Q, .bool A, .bool B, .bool D] s [.str a, .str b, .str d] 0) =
      if ((!A || plainT a) && (!B || plainT b) && (!D || plainT d)) = true then some (.exit 2, { env := [(5, .str (s ++ tW A a ++ tW B b ++ tW D d))], mem := [[], [], []] }) else some (.ret, { env := [(2, .str [])], mem := [[], [], []] }) := by
  have hA : (s ++ tW A a).length ≤ 13000 := by cases A <;> simp [tW] <;> omega
  have hB : (s ++ tW A a ++ tW B b).length ≤ 16000 := by
    rw [List.length_append]
    have : (tW B b).length ≤ 2001 := by cases B <;> simp [tW] <;> omega
    omega
  have s0 := ref1_step [.bool P, .bool Q, .bool A, .bool B, .bool D] A [.bool B, .bool D] s [.str a, .str b, .str d] 0 (by omega) a ha (by omega) rfl rfl rfl
  have s1 := ref1_step [.bool P, .bool Q, .bool A, .bool B, .bool D] B [.bool D] (s ++ tW A a) [.str a, .str b, .str d] 1 (by omega) b hb (by omega) rfl rfl rfl
  have s2 := ref1_step [.bool P, .bool Q, .bool A, .bool B, .bool D] D [] (s ++ tW A a ++ tW B b) [.str a, .str b, .str d] 2 (by omega) d hd (by omega) rfl rfl rfl
  have s3 : cv tab prim L12_1 (r1 [.bool P, .bool Q, .bool A, .bool B, .bool D] (s ++ tW A a ++ tW B b ++ tW D d) [.str a, .str b, .str d] 3) = some (.exit 2, { env := [(5, .str (s ++ tW A a ++ tW B b ++ tW D d))], mem := [[], [], []] }) := by
    simp [r1, L12_1]
  rw [cv_loop', s0]
  cases (!A || plainT a) with
  | false => rw [if_neg (by decide), Bool.false_and, Bool.false_and, if_neg (by decide), roundK_r]
  | true =>
    rw [if_pos rfl, Bool.true_and, roundK_n, cv_loop', s1]
    cases (!B || plainT b) with
    | false => rw [if_neg (by decide), Bool.false_and, if_neg (by decide), roundK_r]
    | true =>
      rw [if_pos rfl, Bool.true_and, roundK_n, cv_loop', s2]
      cases (!D || plainT d) with
      | false => rw [if_neg (by decide), if_neg (by decide), roundK_r]
      | true => rw [if_pos rfl, if_pos rfl, roundK_n, cv_loop', s3, roundK_e]

theorem join_words (x : Ins) : Lib.join x.words [32] = wordOf x.o ++ nW (rowB x.o 1) x.a ++ nW (rowB x.o 2) x.b ++ tW (rowB x.o 3) x.c ++ tW (rowB x.o 4) x.n ++ tW (rowB x.o 5) x.d := by
  unfold Ins.words
  rw [Lib.join_cons]
  unfold Lib.joinTail Ins.nums Ins.texts
  cases rowB x.o 1 <;> cases rowB x.o 2 <;> cases rowB x.o 3 <;> cases rowB x.o 4 <;> cases rowB x.o 5 <;> simp [numW, textW, nW, tW]

theorem ev_refLine (x : Ins) (hx : x.Short) : ev tab prim 12 [x.v] [[], []] = some (.str x.line, [[], []]) := by
  have h1 := ev24 x.o
  have h2 := ev_refWord x.o
  rw [shapeOf_eq] at h1
  have i3 := word_len x.o
  have hl0 := ref0 [.int .i64 x.o, .int .i64 x.a, .int .i64 x.b, .str x.c, .str x.n, .str x.d] (rowB x.o 1) (rowB x.o 2) [.bool (rowB x.o 3), .bool (rowB x.o 4), .bool (rowB x.o 5)] x.a x.b hx.a hx.b (wordOf x.o) (by omega)
  have hwl : (wordOf x.o ++ nW (rowB x.o 1) x.a ++ nW (rowB x.o 2) x.b).length ≤ 10000 := by
    have i1 := itoa_len x.a hx.a
    have i2 := itoa_len x.b hx.b
    have q1 : (nW (rowB x.o 1) x.a).length ≤ 2001 := by cases rowB x.o 1 <;> simp [nW] <;> omega
    have q2 : (nW (rowB x.o 2) x.b).length ≤ 2001 := by cases rowB x.o 2 <;> simp [nW] <;> omega
    rw [List.length_append, List.length_append]
    omega
  have hl1 := ref1 (rowB x.o 1) (rowB x.o 2) (rowB x.o 3) (rowB x.o 4) (rowB x.o 5) x.c x.n x.d hx.c hx.n hx.d (wordOf x.o ++ nW (rowB x.o 1) x.a ++ nW (rowB x.o 2) x.b) hwl
  have hline : x.line = bif inR x.o && x.numsOk && x.textsOk then wordOf x.o ++ nW (rowB x.o 1) x.a ++ nW (rowB x.o 2) x.b ++ tW (rowB x.o 3) x.c ++ tW (rowB x.o 4) x.n ++ tW (rowB x.o 5) x.d else [] := by
    rw [← join_words]; rfl
  rw [hline]
  unfold Ins.numsOk Ins.textsOk
  unfold r0 at hl0
  unfold r1 at hl1
  unfold Ins.v
  generalize wordOf x.o ++ nW (rowB x.o 1) x.a ++ nW (rowB x.o 2) x.b ++ tW (rowB x.o 3) x.c ++ tW (rowB x.o 4) x.n ++ tW (rowB x.o 5) x.d = res at *
  generalize wordOf x.o ++ nW (rowB x.o 1) x.a ++ nW (rowB x.o 2) x.b = mid at *
  generalize wordOf x.o = wd at *
  generalize ((!rowB x.o 1 || int32 x.a) && (!rowB x.o 2 || int32 x.b)) = ok1 at *
  generalize ((!rowB x.o 3 || plainT x.c) && (!rowB x.o 4 || plainT x.n) && (!rowB x.o 5 || plainT x.d)) = ok2 at *
  generalize rowB x.o 1 = b1 at *
  generalize rowB x.o 2 = b2 at *
  generalize rowB x.o 3 = b3 at *
  generalize rowB x.o 4 = b4 at *
  generalize rowB x.o 5 = b5 at *
  rw [ev_fn' tab prim (f := 12) rfl _ _ rfl]
  cases hin : inR x.o with
  | false =>
    rw [hin] at h1
    simp [h1]
  | true =>
    rw [hin] at h1
    cases ok1 with
    | false =>
      rw [if_neg (by decide)] at hl0
      simp at hl0
      simp [h1, h2, hl0]
    | true =>
      rw [if_pos rfl] at hl0
      simp at hl0
      cases ok2 with
      | false =>
        rw [if_neg (by decide)] at hl1
        simp at hl1
        simp [h1, h2, hl0, hl1]
      | true =>
        rw [if_pos rfl] at hl1
        simp at hl1
        simp [h1, h2, hl0, hl1]

end Go.Proofs.YtgmlanhhjmhmmaaDoor.Ev
