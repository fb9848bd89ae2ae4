/- A class, as the document writes it: its loops. -/
import Derived.Test.YtgmlanhhjmhmmaaGreatGh
import Derived.Test.YtgmlanhhjmhmmaaGreatGm
import Derived.Test.YtgmlanhhjmhmmaaGreatGr
namespace Go.Proofs.YtgmlanhhjmhmmaaGreat.Ev
open Go

/-! A class, as the program writes it. -/
/-! The writer: what it writes, if it is within limits. -/
def byteOf (z : Int) : UInt8 := (z % 256).toNat.toUInt8
theorem byteOf_nat (z : Int) : ((byteOf z).toNat : Int) = z % 256 := by
  unfold byteOf
  have h1 : 0 ≤ z % 256 := Int.emod_nonneg _ (by omega)
  have h2 : z % 256 < 256 := Int.emod_lt_of_pos _ (by omega)
  rw [Nat.toUInt8, UInt8.toNat_ofNat']
  omega
theorem wrap_u8 (z : Int) : IntKind.u8.wrap z = z % 256 := rfl
theorem byteV_of (z : Int) : byteV (byteOf z) = V.int .u8 (IntKind.u8.wrap z) := by
  unfold byteV; rw [byteOf_nat, wrap_u8]

/-- A number in so many bytes, the greatest first. -/
def beN (n : Int) : Nat → List UInt8
  | 0 => []
  | k + 1 => byteOf (n.fdiv (2 ^ (8 * k))) :: beN n k
theorem beN_len (n : Int) : ∀ k, (beN n k).length = k
  | 0 => rfl
  | k + 1 => by rw [beN, List.length_cons, beN_len n k]

/-- Encode's memory: the writer's box in its frame, under the pool's; other frames above it. -/
def wC (fr : Mem) (cs : List V) (l : List Tx) : Mem := fr ++ [(21, cs)] :: pM l
def wcs (row : List UInt8) : List V := [.list 1 (row.map byteV) true, .bool false, .ptr 0 0 0]
def wM (fr : Mem) (row : List UInt8) (l : List Tx) : Mem := wC fr (wcs row) l
theorem wC_cons (b : Boxes) (fr : Mem) (cs : List V) (l : List Tx) : wC (b :: fr) cs l = b :: wC fr cs l := nrfl rfl
theorem wM_cons (b : Boxes) (fr : Mem) (row : List UInt8) (l : List Tx) : wM (b :: fr) row l = b :: wM fr row l := nrfl rfl
@[simp] theorem len_wC (fr : Mem) (cs : List V) (l : List Tx) : (wC fr cs l).length = fr.length + 3 := by simp [wC, pM]
theorem mget_app (m : Mem) (k t : Nat) (h : k < m.length) : ∀ fr : Mem, mget (fr ++ m) k t = mget m k t
  | [] => rfl
  | b :: fr => by
    rw [List.cons_append, mget, beq_ne (by simp; omega), cond_false, mget_app m k t h fr]
theorem mput_app (m : Mem) (k t : Nat) (v : List V) (h : k < m.length) : ∀ fr : Mem, mput (fr ++ m) k t v = fr ++ mput m k t v
  | [] => rfl
  | b :: fr => by
    rw [List.cons_append, mput, beq_ne (by simp; omega), cond_false, mput_app m k t v h fr]; rfl
@[simp] theorem mget_wC (fr : Mem) (cs : List V) (l : List Tx) : mget (wC fr cs l) 2 21 = some cs := by
  rw [wC, mget_app _ _ _ (by simp [pM])]; simp [pM]
@[simp] theorem mput_wC (fr : Mem) (cs v : List V) (l : List Tx) : mput (wC fr cs l) 2 21 v = wC fr v l := by
  rw [wC, mput_app _ _ _ _ (by simp [pM])]; simp [pM, wC]
@[simp] theorem mget_wC0 (fr : Mem) (cs : List V) (l : List Tx) : mget (wC fr cs l) 0 0 = some [.list 1 (l.map V.str) true, .mref 0] := by
  rw [wC, mget_app _ _ _ (by simp [pM])]; simp [pM, pO, pA]
@[simp] theorem mget_wC1 (fr : Mem) (cs : List V) (l : List Tx) : mget (wC fr cs l) 1 0 = some [.mapv none (l.map V.str) (idxV 0 l.length)] := by
  rw [wC, mget_app _ _ _ (by simp [pM])]; simp [pM, pO, pA]
theorem n2 (k : Nat) : ¬ 2 = k + 3 := by omega
theorem n1 (k : Nat) : ¬ 1 = k + 3 := by omega
theorem n0 (k : Nat) : ¬ 0 = k + 3 := by omega
theorem n2l (k : Nat) : 2 < k + 3 := by omega
theorem n2l' (k : Nat) : 2 ≤ k + 3 := by omega

theorem putLoop (fr : Mem) (l : List Tx) (n : Int) : ∀ (k : Nat) (row : List UInt8), k ≤ 8 → row.length + k ≤ 70368744177664 →
    cv tab prim (.loop L60_0) { env := [(0, .ptr 2 21 0), (1, .int .i64 n), (2, .int .i64 (k : Int))], mem := [] :: wM fr row l } =
      some (.exit 0, { env := [(0, .ptr 2 21 0)], mem := [] :: wM fr (row ++ beN n k) l }) := by
  intro k
  induction k with
  | zero =>
    intro row _ _
    rw [cv_loop']
    simp [L60_0, beN]
  | succ k ih =>
    intro row hk hr
    have h1 : 0 < (k : Int) + 1 := by omega
    have hw : IntKind.i64.wrap (k : Int) = (k : Int) := wrap_small (by omega) (by omega)
    have hw8 : IntKind.i64.wrap (8 * (k : Int)) = 8 * (k : Int) := wrap_small (by omega) (by omega)
    have hn8 : ¬ 8 * (k : Int) < 0 := by omega
    have ht : (8 * (k : Int)).toNat = 8 * k := by omega
    have hmin : min (8 * k) IntKind.i64.bits = 8 * k := by show min (8 * k) 64 = 8 * k; omega
    have c1 : row.length + 1 ≤ 140737488355328 := by omega
    have := ih (row ++ [byteOf (n.fdiv (2 ^ (8 * k)))]) (by omega) (by simp; omega)
    rw [show row ++ [byteOf (n.fdiv (2 ^ (8 * k)))] ++ beN n k = row ++ beN n (k + 1) from by simp [beN]] at this
    rw [cv_loop', ← this]
    simp [L60_0, wM, wcs, n2, h1, hw, hw8, hn8, ht, hmin, c1, byteV_of]

set_option maxHeartbeats 4000000 in
theorem ev_put (fr : Mem) (row : List UInt8) (l : List Tx) (n : Int) (k : Nat) (lo hi : Int) (hk : k ≤ 8) (h1 : lo ≤ n) (h2 : n ≤ hi) (hr : row.length + k ≤ 70368744177664) :
    ev tab prim 60 [.ptr 2 21 0, .int .i64 n, .int .i64 (k : Int), .int .i64 lo, .int .i64 hi] (wM fr row l) = some (.ptr 2 21 0, wM fr (row ++ beN n k) l) := by
  have p1 : ¬ n < lo := by omega
  have p2 : ¬ hi < n := by omega
  have hL := putLoop fr l n k row hk hr
  rw [ev_fn' tab prim (f := 60) rfl _ _ rfl]
  unfold wM wcs at *
  simp [n2, p1, p2, hL, n2l]

theorem ev_U1 (fr : Mem) (row : List UInt8) (l : List Tx) (n : Int) (h1 : 0 ≤ n) (h2 : n ≤ 255) (hr : row.length + 1 ≤ 70368744177664) :
    ev tab prim 24 [.ptr 2 21 0, .int .i64 n] (wM fr row l) = some (.ptr 2 21 0, wM fr (row ++ beN n 1) l) := by
  have h := ev_put ([] :: fr) row l n 1 0 255 (by omega) h1 h2 hr
  rw [wM_cons, wM_cons] at h
  rw [ev_fn' tab prim (f := 24) rfl _ _ rfl]
  unfold wM at *
  simp at h
  simp [h, n2l]

theorem ev_U2 (fr : Mem) (row : List UInt8) (l : List Tx) (n : Int) (h1 : 0 ≤ n) (h2 : n ≤ 65535) (hr : row.length + 2 ≤ 70368744177664) :
    ev tab prim 25 [.ptr 2 21 0, .int .i64 n] (wM fr row l) = some (.ptr 2 21 0, wM fr (row ++ beN n 2) l) := by
  have h := ev_put ([] :: fr) row l n 2 0 65535 (by omega) h1 h2 hr
  rw [wM_cons, wM_cons] at h
  rw [ev_fn' tab prim (f := 25) rfl _ _ rfl]
  unfold wM at *
  simp at h
  simp [h, n2l]

theorem ev_I4 (fr : Mem) (row : List UInt8) (l : List Tx) (n : Int) (h1 : -2147483648 ≤ n) (h2 : n ≤ 2147483647) (hr : row.length + 4 ≤ 70368744177664) :
    ev tab prim 62 [.ptr 2 21 0, .int .i64 n] (wM fr row l) = some (.ptr 2 21 0, wM fr (row ++ beN n 4) l) := by
  have h := ev_put ([] :: fr) row l n 4 (-2147483648) 2147483647 (by omega) h1 h2 hr
  rw [wM_cons, wM_cons] at h
  rw [ev_fn' tab prim (f := 62) rfl _ _ rfl]
  unfold wM at *
  simp at h
  simp [h, n2l]

theorem ev_Text (fr : Mem) (row : List UInt8) (l : List Tx) (s : Tx) (hs : s.length ≤ 65535) (hr : row.length + (2 + s.length) ≤ 70368744177664) :
    ev tab prim 26 [.ptr 2 21 0, .str s] (wM fr row l) = some (.ptr 2 21 0, wM fr (row ++ (beN s.length 2 ++ s)) l) := by
  have h := ev_U2 ([] :: fr) row l s.length (by omega) (by omega) (by omega)
  have c1 : row.length + 2 + s.length ≤ 140737488355328 := by omega
  have c2 : row.length + (2 + s.length) ≤ 140737488355328 := by omega
  have hb := beN_len s.length 2
  rw [wM_cons, wM_cons] at h
  generalize beN s.length 2 = b at *
  rw [ev_fn' tab prim (f := 26) rfl _ _ rfl]
  unfold wM wcs at *
  simp [h, n2l, n2, hb, c1, c2]

theorem ev_Bytes (fr : Mem) (row : List UInt8) (l : List Tx) (hr : row.length ≤ 70368744177664) :
    ev tab prim 30 [.ptr 2 21 0] (wM fr row l) = some (.list 1 (row.map byteV) true, wM fr row l) := by
  have hb : ev tab prim 63 [.ptr 2 21 0] ([] :: wM fr row l) = some (.bool false, [] :: wM fr row l) := by
    rw [ev_fn' tab prim (f := 63) rfl _ _ rfl]
    unfold wM wcs
    simp [n2]
  have hc : ev tab prim 64 [.list 1 (row.map byteV) false] [[], []] = some (.list 1 (row.map byteV) true, [[], []]) := by
    rw [ev_prim tab prim rfl]
    show (if (row.map byteV).length ≤ 140737488355328 then _ else _) = _
    rw [if_pos (by rw [List.length_map]; omega)]
  rw [ev_fn' tab prim (f := 30) rfl _ _ rfl]
  unfold wM wcs at *
  simp [hb, hc, n2]

/-! Texts, by their places. -/
def pl (l : List Tx) (s : Tx) : List UInt8 := beN (posI (posOf 0 l s)) 2
theorem posOf_lt : ∀ (l : List Tx) (k : Nat) (s : Tx), s ∈ l → ∃ p, posOf k l s = some p ∧ k ≤ p ∧ p < k + l.length
  | x :: r, k, s, h => by
    rw [posOf]
    cases hq : s == x
    · have hr : s ∈ r := by
        rcases List.mem_cons.1 h with rfl | h
        · simp at hq
        · exact h
      obtain ⟨p, h1, h2, h3⟩ := posOf_lt r (k + 1) s hr
      exact ⟨p, h1, by omega, by rw [List.length_cons]; omega⟩
    · exact ⟨k, rfl, by omega, by rw [List.length_cons]; omega⟩
theorem pl_len (l : List Tx) (s : Tx) : (pl l s).length = 2 := beN_len _ 2

theorem ev_wtext (fr : Mem) (row : List UInt8) (l xs : List Tx) (o : Bool) (hl : l.length ≤ 65536) (hx : ∀ s ∈ xs, s ∈ l) (hn : xs.length ≤ maxLen) (hr : row.length + (xs.flatMap (pl l)).length ≤ 70368744177664) :
    ev tab prim 27 [.ptr 2 21 0, .list 1 (xs.map V.str) o] (wM fr row l) = some (.tup [], wM fr (row ++ xs.flatMap (pl l)) l) := by
  have hL := loop_all (b := L27_0) (fun i => { env := [(0, .ptr 2 21 0), (6, .list 1 (xs.map V.str) false), (7, .int .i64 xs.length), (8, .int .i64 i)], mem := [] :: wM fr (row ++ (xs.take i).flatMap (pl l)) l }) xs.length (.exit 0, { env := [], mem := [] :: wM fr (row ++ xs.flatMap (pl l)) l })
    (fun i hi => by
      have a1 : (i : Int) < (xs.length : Int) := by omega
      have hw := wrap_succ hi hn
      have hx' : (xs.map V.str)[i]? = some (.str xs[i]) := by simp [hi]
      have hle := flatMap_le (pl l) xs i hi
      have hm := hx _ (List.getElem_mem hi)
      rw [flatMap_take (pl l) xs i hi, ← List.append_assoc]
      have hr' : (row ++ (xs.take i).flatMap (pl l)).length + 2 ≤ 70368744177664 := by rw [List.length_append]; rw [pl_len] at hle; omega
      generalize row ++ (xs.take i).flatMap (pl l) = r at hr' ⊢
      generalize xs[i] = s at hx' hm ⊢
      obtain ⟨p, h1, h2, h3⟩ := posOf_lt l 0 s hm
      have hf := findK_pool l 0 s
      rw [h1] at hf
      have hU := ev_U2 ([] :: fr) r l p (by omega) (by omega) hr'
      rw [wM_cons, wM_cons] at hU
      unfold pl
      rw [h1]
      unfold wM wcs at *
      simp [L27_0, a1, hw, idxOk, hx', hf, mapAns, n2, n1, n0, hU, posI])
    (by rw [List.take_length]; simp [L27_0]) (by simp)
  simp only [Int.natCast_zero, List.take_zero, List.flatMap_nil, List.append_nil] at hL
  rw [ev_fn' tab prim (f := 27) rfl _ _ rfl]
  simp [hL]

/-! A method, as the writer writes it. -/
def yesI (b : Bool) : Int := bif b then 1 else 0
def iB (l : List Tx) (x : Ins) : List UInt8 := beN x.o 1 ++ (bif rowB x.o 1 then beN x.a 4 else []) ++ (bif rowB x.o 2 then beN x.b 4 else []) ++ x.texts.flatMap (pl l)
def hB (l : List Tx) (h : Hnd) : List UInt8 := beN h.f 2 ++ beN h.t 2 ++ beN h.a 2 ++ pl l h.c
def mB (l : List Tx) (m : Mth) : List UInt8 :=
  pl l m.n ++ pl l m.d ++ beN (yesI m.s) 1 ++ beN (yesI m.a) 1 ++ beN m.st 1 ++ beN m.lo 1 ++ beN m.code.length 2 ++ m.code.flatMap (iB l) ++ beN m.hs.length 2 ++ m.hs.flatMap (hB l)

/-- What a method that may be keeps within. -/
structure Mth.Ok (m : Mth) : Prop where
  (st : 0 ≤ m.st ∧ m.st ≤ 20) (lo : 0 ≤ m.lo ∧ m.lo ≤ 20) (code : m.code.length ≤ 200) (hs : m.hs.length ≤ 20)
  (ins : ∀ x ∈ m.code, (0 ≤ x.o ∧ x.o ≤ 255) ∧ (rowB x.o 1 = true → -2147483648 ≤ x.a ∧ x.a ≤ 2147483647) ∧ (rowB x.o 2 = true → -2147483648 ≤ x.b ∧ x.b ≤ 2147483647))
  (hnd : ∀ h ∈ m.hs, (0 ≤ h.f ∧ h.f ≤ 200) ∧ (0 ≤ h.t ∧ h.t ≤ 200) ∧ (0 ≤ h.a ∧ h.a ≤ 200))

theorem firstE_zero {α : Type} (f : α → Int) : ∀ (l : List α), firstE f l = 0 → ∀ x ∈ l, f x = 0
  | [], _, x, h => by cases h
  | y :: r, h, x, hx => by
    rw [firstE] at h
    cases e : f y == 0
    · rw [e, cond_false] at h
      rw [h] at e; simp at e
    · rw [e, cond_true] at h
      rcases List.mem_cons.1 hx with rfl | hx
      · simpa using e
      · exact firstE_zero f r h x hx

theorem Mth.ok_of (m : Mth) (h : errM m = 0) : m.Ok := by
  unfold errM at h
  cases h1 : nmdM m
  · rw [h1] at h; simp at h
  cases h2 : limM m
  · rw [h1, h2] at h; simp at h
  rw [h1, h2] at h
  unfold limM at h2
  simp only [Bool.and_eq_true, decide_eq_true_eq] at h2
  obtain ⟨⟨l1, l2⟩, ⟨l3, l4⟩, l5, l6⟩ := h2
  simp only [Bool.not_true, cond_false] at h
  cases h3 : (m.a && (m.s || !bareM m)) || (!m.a && (m.code.length : Int) == 0)
  · rw [h3, cond_false] at h
    cases ha : m.a
    · rw [ha, cond_false] at h
      cases h4 : decide (m.lo < leastM m)
      · rw [h4, cond_false] at h
        cases h5 : errC m == 0
        · rw [h5, cond_false] at h
          rw [h] at h5; simp at h5
        · rw [h5, cond_true] at h
          have h5' : errC m = 0 := by simpa using h5
          refine ⟨⟨l1, l2⟩, ⟨l3, l4⟩, by omega, by omega, fun x hx => ?_, fun y hy => ?_⟩
          · have hz := firstE_zero _ _ h5' x hx
            unfold chkI at hz
            cases q1 : inR x.o
            · rw [q1] at hz; simp at hz
            cases q2 : bad32 x.o x.a x.b
            · have q1' : 1 ≤ x.o ∧ x.o ≤ 38 := by simpa [inR] using q1
              refine ⟨by omega, fun e => ?_, fun e => ?_⟩
              · simp only [bad32, e, in32, Bool.true_and, Bool.or_eq_false_iff, Bool.not_eq_false', Bool.and_eq_true, decide_eq_true_eq] at q2
                exact q2.1
              · simp only [bad32, e, in32, Bool.true_and, Bool.or_eq_false_iff, Bool.not_eq_false', Bool.and_eq_true, decide_eq_true_eq] at q2
                exact q2.2
            · rw [q1, q2] at hz; simp at hz
          · have hz := firstE_zero _ _ h y hy
            unfold hdl at hz
            cases q : decide (y.f < 0) || (decide (y.t ≤ y.f) || (decide ((m.code.length : Int) < y.t) || !(decide (0 ≤ y.a) && decide (y.a ≤ m.code.length - 1))))
            · simp at q
              omega
            · rw [q, cond_true] at hz; omega
      · rw [h4] at h; simp at h
    · rw [ha] at h3
      simp [bareM] at h3
      obtain ⟨_, _, _, k1, k2⟩ := h3
      refine ⟨⟨l1, l2⟩, ⟨l3, l4⟩, by omega, by omega, fun x hx => ?_, fun y hy => ?_⟩
      · rw [k1] at hx; cases hx
      · rw [k2] at hy; cases hy
  · rw [h3] at h; simp at h

theorem iB_len (l : List Tx) (x : Ins) : (iB l x).length ≤ 15 := by
  have h := flatMap_len (pl l) 2 x.texts fun a _ => by rw [pl_len]; omega
  have h2 := x.texts_len
  unfold iB
  simp only [List.length_append, beN_len]
  cases rowB x.o 1 <;> cases rowB x.o 2 <;> simp only [cond_true, cond_false, beN_len, List.length_nil] <;> omega
theorem hB_len (l : List Tx) (h : Hnd) : (hB l h).length = 8 := by simp [hB, beN_len, pl_len]
theorem mB_len (l : List Tx) (m : Mth) (ho : m.Ok) : (mB l m).length ≤ 4000 := by
  have h1 := flatMap_len (iB l) 15 m.code fun a _ => iB_len l a
  have h2 := flatMap_len (hB l) 8 m.hs fun a _ => by rw [hB_len]; omega
  have := ho.code
  have := ho.hs
  unfold mB
  simp only [List.length_append, beN_len, pl_len]
  omega

theorem ev_flag (b : Bool) : ev tab prim 28 [.bool b] [[], []] = some (.int .i64 (yesI b), [[], []]) := by
  rw [ev_fn' tab prim (f := 28) rfl _ _ rfl]
  cases b <;> simp [yesI]

def mE (m : Mth) (r : Env) : Env := (0, .ptr 2 21 0) :: (3, .cptr m.cells) :: r

set_option maxHeartbeats 16000000 in
theorem wmLoop0 (fr : Mem) (row : List UInt8) (l : List Tx) (m : Mth) (hm : m.Wf) (ho : m.Ok) (hl : l.length ≤ 65536) (hx : ∀ x ∈ m.code, ∀ s ∈ x.texts, s ∈ l) (hr : row.length ≤ 70000000000000) :
    cv tab prim (.loop L29_0) { env := mE m [(39, .list 6 (m.code.map Ins.v) false), (40, .int .i64 m.code.length), (41, .int .i64 0)], mem := [] :: wM fr row l } =
      some (.exit 0, { env := mE m [], mem := [] :: wM fr (row ++ m.code.flatMap (iB l)) l }) := by
  have h := loop_all (b := L29_0) (fun i => { env := mE m [(39, .list 6 (m.code.map Ins.v) false), (40, .int .i64 m.code.length), (41, .int .i64 i)], mem := [] :: wM fr (row ++ (m.code.take i).flatMap (iB l)) l }) m.code.length (.exit 0, { env := mE m [], mem := [] :: wM fr (row ++ m.code.flatMap (iB l)) l }) (fun i hi => ?_) ?_ (by simp)
  · simpa using h
  · have a1 : (i : Int) < (m.code.length : Int) := by omega
    have hw := wrap_succ hi hm.code
    have hx' : (m.code.map Ins.v)[i]? = some (Ins.v m.code[i]) := by simp [hi]
    have hq := hx _ (List.getElem_mem hi)
    obtain ⟨⟨o1, o2⟩, oa, ob⟩ := ho.ins _ (List.getElem_mem hi)
    have hlen : ((m.code.take i).flatMap (iB l)).length ≤ 15 * 200 := by
      have := flatMap_len (iB l) 15 (m.code.take i) fun a _ => iB_len l a
      rw [List.length_take] at this
      have := ho.code
      omega
    rw [flatMap_take (iB l) m.code i hi, ← List.append_assoc]
    have hr' : (row ++ (m.code.take i).flatMap (iB l)).length ≤ 70000000003000 := by rw [List.length_append]; omega
    generalize row ++ (m.code.take i).flatMap (iB l) = r at hr' ⊢
    generalize m.code[i] = x at *
    have h40 := ev61 x.o
    rw [shapeOf_eq] at h40
    have hT := ev_texts x
    have htl := x.texts_len
    have htl' := flatMap_len (pl l) 2 x.texts fun a _ => by rw [pl_len]; omega
    unfold iB
    rw [← List.append_assoc, ← List.append_assoc, ← List.append_assoc]
    generalize rowB x.o 1 = r1 at *
    generalize rowB x.o 2 = r2 at *
    have hU1 := ev_U1 ([] :: fr) r l x.o o1 o2 (by omega)
    have n1 : (r ++ beN x.o 1).length ≤ 70000000003001 := by rw [List.length_append, beN_len]; omega
    generalize r ++ beN x.o 1 = w1 at *
    simp only [Ins.v] at hT
    simp only [wM_cons] at hU1
    cases r1
    · simp only [cond_false, List.append_nil]
      cases r2
      · simp only [cond_false, List.append_nil]
        have hW := ev_wtext ([] :: fr) w1 l x.texts false hl hq (by unfold maxLen; omega) (by omega)
        simp only [wM_cons] at hW
        generalize w1 ++ x.texts.flatMap (pl l) = w4 at *
        simp [L29_0, mE, a1, hw, idxOk, hx', Ins.v, h40, hU1, hT, hW]
      · simp only [cond_true]
        have hB := ev_I4 ([] :: fr) w1 l x.b (ob rfl).1 (ob rfl).2 (by omega)
        have n3 : (w1 ++ beN x.b 4).length ≤ 70000000003009 := by rw [List.length_append, beN_len]; omega
        generalize w1 ++ beN x.b 4 = w3 at *
        have hW := ev_wtext ([] :: fr) w3 l x.texts false hl hq (by unfold maxLen; omega) (by omega)
        simp only [wM_cons] at hW hB
        generalize w3 ++ x.texts.flatMap (pl l) = w4 at *
        simp [L29_0, mE, a1, hw, idxOk, hx', Ins.v, h40, hU1, hT, hW, hB]
    · simp only [cond_true]
      have hA := ev_I4 ([] :: fr) w1 l x.a (oa rfl).1 (oa rfl).2 (by omega)
      have n2 : (w1 ++ beN x.a 4).length ≤ 70000000003005 := by rw [List.length_append, beN_len]; omega
      generalize w1 ++ beN x.a 4 = w2 at *
      simp only [wM_cons] at hA
      cases r2
      · simp only [cond_false, List.append_nil]
        have hW := ev_wtext ([] :: fr) w2 l x.texts false hl hq (by unfold maxLen; omega) (by omega)
        simp only [wM_cons] at hW
        generalize w2 ++ x.texts.flatMap (pl l) = w4 at *
        simp [L29_0, mE, a1, hw, idxOk, hx', Ins.v, h40, hU1, hT, hW, hA]
      · simp only [cond_true]
        have hB := ev_I4 ([] :: fr) w2 l x.b (ob rfl).1 (ob rfl).2 (by omega)
        have n3 : (w2 ++ beN x.b 4).length ≤ 70000000003009 := by rw [List.length_append, beN_len]; omega
        generalize w2 ++ beN x.b 4 = w3 at *
        have hW := ev_wtext ([] :: fr) w3 l x.texts false hl hq (by unfold maxLen; omega) (by omega)
        simp only [wM_cons] at hW hB
        generalize w3 ++ x.texts.flatMap (pl l) = w4 at *
        simp [L29_0, mE, a1, hw, idxOk, hx', Ins.v, h40, hU1, hT, hW, hA, hB]
  · rw [List.take_length]; simp [L29_0, mE]

set_option maxHeartbeats 16000000 in
theorem wmLoop1 (fr : Mem) (row : List UInt8) (l : List Tx) (m : Mth) (hm : m.Wf) (ho : m.Ok) (hl : l.length ≤ 65536) (hx : ∀ x ∈ m.hs, x.c ∈ l) (hr : row.length ≤ 70000000010000) :
    cv tab prim (.loop L29_1) { env := [(0, .ptr 2 21 0), (86, .list 4 (m.hs.map Hnd.v) false), (87, .int .i64 m.hs.length), (88, .int .i64 0)], mem := [] :: wM fr row l } =
      some (.exit 2, { env := [], mem := [] :: wM fr (row ++ m.hs.flatMap (hB l)) l }) := by
  have h := loop_all (b := L29_1) (fun i => { env := [(0, .ptr 2 21 0), (86, .list 4 (m.hs.map Hnd.v) false), (87, .int .i64 m.hs.length), (88, .int .i64 i)], mem := [] :: wM fr (row ++ (m.hs.take i).flatMap (hB l)) l }) m.hs.length (.exit 2, { env := [], mem := [] :: wM fr (row ++ m.hs.flatMap (hB l)) l }) (fun i hi => ?_) ?_ (by simp)
  · simpa using h
  · have a1 : (i : Int) < (m.hs.length : Int) := by omega
    have hw := wrap_succ hi hm.hs
    have hx' : (m.hs.map Hnd.v)[i]? = some (Hnd.v m.hs[i]) := by simp [hi]
    have hq := hx _ (List.getElem_mem hi)
    obtain ⟨⟨o1, o2⟩, ⟨o3, o4⟩, o5, o6⟩ := ho.hnd _ (List.getElem_mem hi)
    have hlen : ((m.hs.take i).flatMap (hB l)).length ≤ 8 * 20 := by
      have := flatMap_len (hB l) 8 (m.hs.take i) fun a _ => by rw [hB_len]; omega
      rw [List.length_take] at this
      have := ho.hs
      omega
    rw [flatMap_take (hB l) m.hs i hi, ← List.append_assoc]
    have hr' : (row ++ (m.hs.take i).flatMap (hB l)).length ≤ 70000000010160 := by rw [List.length_append]; omega
    generalize row ++ (m.hs.take i).flatMap (hB l) = r at hr' ⊢
    generalize m.hs[i] = x at *
    unfold hB
    rw [← List.append_assoc, ← List.append_assoc, ← List.append_assoc]
    have hU1 := ev_U2 ([] :: fr) r l x.f o1 (by omega) (by omega)
    have n1 : (r ++ beN x.f 2).length ≤ 70000000010162 := by rw [List.length_append, beN_len]; omega
    generalize r ++ beN x.f 2 = w1 at *
    have hU2 := ev_U2 ([] :: fr) w1 l x.t o3 (by omega) (by omega)
    have n2 : (w1 ++ beN x.t 2).length ≤ 70000000010164 := by rw [List.length_append, beN_len]; omega
    generalize w1 ++ beN x.t 2 = w2 at *
    have hU3 := ev_U2 ([] :: fr) w2 l x.a o5 (by omega) (by omega)
    have n3 : (w2 ++ beN x.a 2).length ≤ 70000000010166 := by rw [List.length_append, beN_len]; omega
    generalize w2 ++ beN x.a 2 = w3 at *
    have hW := ev_wtext ([] :: fr) w3 l [x.c] false hl (by simpa using hq) (by simp [maxLen]) (by simp [pl_len]; omega)
    rw [show [x.c].flatMap (pl l) = pl l x.c from by simp] at hW
    generalize w3 ++ pl l x.c = w4 at *
    simp only [wM_cons, List.map_cons, List.map_nil] at hU1 hU2 hU3 hW
    simp [L29_1, a1, hw, idxOk, hx', Hnd.v, hU1, hU2, hU3, hW]
  · rw [List.take_length]; simp [L29_1]

set_option maxHeartbeats 16000000 in
theorem ev_wmethod (fr : Mem) (row : List UInt8) (l : List Tx) (m : Mth) (hm : m.Wf) (ho : m.Ok) (hl : l.length ≤ 65536) (hx : ∀ s ∈ mT m, s ∈ l) (hr : row.length ≤ 69000000000000) :
    ev tab prim 29 [.ptr 2 21 0, m.v] (wM fr row l) = some (.tup [], wM fr (row ++ mB l m) l) := by
  have x1 : m.n ∈ l := hx _ (by simp [mT])
  have x2 : m.d ∈ l := hx _ (by simp [mT])
  have x3 : ∀ x ∈ m.code, ∀ s ∈ x.texts, s ∈ l := fun x h1 s h2 => hx _ (by simp only [mT, List.mem_append, List.mem_flatMap]; exact .inr (.inl ⟨x, h1, h2⟩))
  have x4 : ∀ x ∈ m.hs, x.c ∈ l := fun x h1 => hx _ (by simp only [mT, List.mem_append, List.mem_map]; exact .inr (.inr ⟨x, h1, rfl⟩))
  have hcl := ho.code
  have hhl := ho.hs
  obtain ⟨s1, s2⟩ := ho.st
  obtain ⟨t1, t2⟩ := ho.lo
  have hW := ev_wtext ([] :: fr) row l [m.n, m.d] false hl (by simp [x1, x2]) (by simp [maxLen]) (by simp [pl_len]; omega)
  have y1 := ev_flag m.s
  have y2 := ev_flag m.a
  have z1 : 0 ≤ yesI m.s ∧ yesI m.s ≤ 255 := by unfold yesI; cases m.s <;> simp
  have z2 : 0 ≤ yesI m.a ∧ yesI m.a ≤ 255 := by unfold yesI; cases m.a <;> simp
  rw [show [m.n, m.d].flatMap (pl l) = pl l m.n ++ pl l m.d from by simp] at hW
  unfold mB
  simp only [← List.append_assoc] at hW ⊢
  have n0 : (row ++ pl l m.n ++ pl l m.d).length ≤ 69000000000004 := by simp only [List.length_append, pl_len]; omega
  generalize row ++ pl l m.n ++ pl l m.d = w0 at *
  have hU1 := ev_U1 ([] :: fr) w0 l (yesI m.s) z1.1 z1.2 (by omega)
  have n1 : (w0 ++ beN (yesI m.s) 1).length ≤ 69000000000005 := by rw [List.length_append, beN_len]; omega
  generalize w0 ++ beN (yesI m.s) 1 = w1 at *
  have hU2 := ev_U1 ([] :: fr) w1 l (yesI m.a) z2.1 z2.2 (by omega)
  have n2 : (w1 ++ beN (yesI m.a) 1).length ≤ 69000000000006 := by rw [List.length_append, beN_len]; omega
  generalize w1 ++ beN (yesI m.a) 1 = w2 at *
  have hU3 := ev_U1 ([] :: fr) w2 l m.st s1 (by omega) (by omega)
  have n3 : (w2 ++ beN m.st 1).length ≤ 69000000000007 := by rw [List.length_append, beN_len]; omega
  generalize w2 ++ beN m.st 1 = w3 at *
  have hU4 := ev_U1 ([] :: fr) w3 l m.lo t1 (by omega) (by omega)
  have n4 : (w3 ++ beN m.lo 1).length ≤ 69000000000008 := by rw [List.length_append, beN_len]; omega
  generalize w3 ++ beN m.lo 1 = w4 at *
  have hU5 := ev_U2 ([] :: fr) w4 l m.code.length (by omega) (by omega) (by omega)
  have n5 : (w4 ++ beN m.code.length 2).length ≤ 69000000000010 := by rw [List.length_append, beN_len]; omega
  generalize w4 ++ beN m.code.length 2 = w5 at *
  have hL0 := wmLoop0 fr w5 l m hm ho hl x3 (by omega)
  have n6 : (w5 ++ m.code.flatMap (iB l)).length ≤ 69000000003010 := by
    have := flatMap_len (iB l) 15 m.code fun a _ => iB_len l a
    rw [List.length_append]; omega
  generalize w5 ++ m.code.flatMap (iB l) = w6 at *
  have hU6 := ev_U2 ([] :: fr) w6 l m.hs.length (by omega) (by omega) (by omega)
  have n7 : (w6 ++ beN m.hs.length 2).length ≤ 69000000003012 := by rw [List.length_append, beN_len]; omega
  generalize w6 ++ beN m.hs.length 2 = w7 at *
  have hL1 := wmLoop1 fr w7 l m hm ho hl x4 (by omega)
  generalize w7 ++ m.hs.flatMap (hB l) = w8 at *
  simp only [wM_cons, List.map_cons, List.map_nil] at hW hU1 hU2 hU3 hU4 hU5 hU6
  simp only [mE, Mth.cells] at hL0
  unfold Mth.v Mth.cells
  rw [ev_fn' tab prim (f := 29) rfl _ _ rfl]
  simp [hW, y1, y2, hU1, hU2, hU3, hU4, hU5, hU6, hL0, hL1]

/-! A class, as the program writes it. -/
def tB (s : Tx) : List UInt8 := beN s.length 2 ++ s
def fB (l : List Tx) (f : Fld) : List UInt8 := pl l f.n ++ pl l f.d ++ beN (yesI f.s) 1
/-- The bytes of a class, the places of its texts in l. -/
def Cls.bytesL (c : Cls) (l : List Tx) : List UInt8 :=
  [83, 66, 67, 49] ++ beN l.length 2 ++ l.flatMap tB ++ pl l c.n ++ pl l c.s ++ beN (yesI c.i) 1 ++ beN (yesI c.a) 1 ++ beN c.im.length 2 ++ c.im.flatMap (pl l) ++
    beN c.fs.length 2 ++ c.fs.flatMap (fB l) ++ beN c.ms.length 2 ++ c.ms.flatMap (mB l)
def Cls.bytes (c : Cls) : List UInt8 := c.bytesL c.pool

structure Cls.Ok (c : Cls) : Prop where
  (im : c.im.length ≤ 30) (fs : c.fs.length ≤ 20) (ms : c.ms.length ≤ 20) (mss : ∀ m ∈ c.ms, m.Ok) (pool : c.pool.length ≤ 500)

theorem Cls.ok_of (c : Cls) (h : c.err = 0) : c.Ok := by
  unfold Cls.err at h
  cases h1 : !(nameOk c.n && ((c.s == []) || nameOk c.s)) || c.im.any (fun s => !nameOk s)
  · rw [h1, cond_false] at h
    cases h2 : decide (30 < (c.im.length : Int)) || (decide (20 < (c.fs.length : Int)) || decide (20 < (c.ms.length : Int)))
    · rw [h2, cond_false] at h
      simp only [Bool.or_eq_false_iff, decide_eq_false_iff_not] at h2
      cases h3 : c.fs.any (fun f => !(nameOk f.n && typeOk f.d))
      · rw [h3, cond_false] at h
        cases h4 : firstE errM c.ms == 0
        · rw [h4, cond_false] at h
          rw [h] at h4; simp at h4
        · rw [h4, cond_true] at h
          cases h5 : decide (500 < (c.pool.length : Int))
          · have h5' : ¬ 500 < (c.pool.length : Int) := by simpa using h5
            exact ⟨by omega, by omega, by omega, fun m hm => m.ok_of (firstE_zero _ _ (by simpa using h4) m hm), by omega⟩
          · rw [h5] at h; simp at h
      · rw [h3] at h; simp at h
    · rw [h2] at h; simp at h
  · rw [h1] at h; simp at h

@[simp] theorem mget_wM (fr : Mem) (row : List UInt8) (l : List Tx) : mget (wM fr row l) 2 21 = some (wcs row) := mget_wC fr _ l
@[simp] theorem mget_wM0 (fr : Mem) (row : List UInt8) (l : List Tx) : mget (wM fr row l) 0 0 = some [.list 1 (l.map V.str) true, .mref 0] := mget_wC0 fr _ l
theorem wM_new (l : List Tx) : [(21, [V.list 1 [] true, .bool false, .ptr 0 0 0])] :: pM l = wM [] [] l := nrfl rfl
@[simp] theorem len_pM (l : List Tx) : (pM l).length = 2 := nrfl rfl

def eE (c : Cls) (r : Env) : Env := (1, .cptr c.cells) :: (5, .ptr 2 21 0) :: r

theorem wcLoop0 (c : Cls) (l : List Tx) : cv tab prim (.loop L9_0) { env := eE c [(22, .int .i64 0)], mem := wM [] [] l } = some (.exit 0, { env := eE c [], mem := wM [] [83, 66, 67, 49] l }) := by
  have b0 : beN 83 1 = [83] := by rfl
  have b1 : beN 66 1 = [66] := by rfl
  have b2 : beN 67 1 = [67] := by rfl
  have b3 : beN 49 1 = [49] := by rfl
  have h := loop_all (b := L9_0) (fun i => { env := eE c [(22, .int .i64 i)], mem := wM [] (([83, 66, 67, 49] : List UInt8).take i) l }) 4 (.exit 0, { env := eE c [], mem := wM [] [83, 66, 67, 49] l }) (fun i hi => ?_) ?_ (by simp)
  · simpa using h
  · have w0 : IntKind.i64.wrap 1 = 1 := rfl
    have w1 : IntKind.i64.wrap 2 = 2 := rfl
    have w2 : IntKind.i64.wrap 3 = 3 := rfl
    have w3 : IntKind.i64.wrap 4 = 4 := rfl
    have k0 : IntKind.i64.wrap 83 = 83 := rfl
    have k1 : IntKind.i64.wrap 66 = 66 := rfl
    have k2 : IntKind.i64.wrap 67 = 67 := rfl
    have k3 : IntKind.i64.wrap 49 = 49 := rfl
    have u0 := ev_U1 [] [] l 83 (by omega) (by omega) (by simp)
    have u1 := ev_U1 [] [83] l 66 (by omega) (by omega) (by simp)
    have u2 := ev_U1 [] [83, 66] l 67 (by omega) (by omega) (by simp)
    have u3 := ev_U1 [] [83, 66, 67] l 49 (by omega) (by omega) (by simp)
    rw [b0] at u0
    rw [b1] at u1
    rw [b2] at u2
    rw [b3] at u3
    simp only [List.nil_append, List.cons_append] at u0 u1 u2 u3
    match i, hi with
    | 0, _ => simp [L9_0, eE, idxOk, w0, k0, u0]
    | 1, _ => simp [L9_0, eE, idxOk, w1, k1, u1]
    | 2, _ => simp [L9_0, eE, idxOk, w2, k2, u2]
    | 3, _ => simp [L9_0, eE, idxOk, w3, k3, u3]
  · simp [L9_0, eE]

theorem tB_len (s : Tx) (hs : s.length ≤ 65535) : (tB s).length ≤ 65537 := by simp [tB, beN_len]; omega
theorem fB_len (l : List Tx) (f : Fld) : (fB l f).length = 5 := by simp [fB, beN_len, pl_len]

theorem wcLoop1 (c : Cls) (l : List Tx) (row : List UInt8) (hl : l.length ≤ 500) (hx : ∀ s ∈ l, s.length ≤ 65535) (hr : row.length ≤ 1000) :
    cv tab prim (.loop L9_1) { env := eE c [(51, .list 1 (l.map V.str) false), (52, .int .i64 l.length), (53, .int .i64 0)], mem := wM [] row l } = some (.exit 2, { env := eE c [], mem := wM [] (row ++ l.flatMap tB) l }) := by
  have h := loop_all (b := L9_1) (fun i => { env := eE c [(51, .list 1 (l.map V.str) false), (52, .int .i64 l.length), (53, .int .i64 i)], mem := wM [] (row ++ (l.take i).flatMap tB) l }) l.length (.exit 2, { env := eE c [], mem := wM [] (row ++ l.flatMap tB) l }) (fun i hi => ?_) ?_ (by simp)
  · simpa using h
  · have a1 : (i : Int) < (l.length : Int) := by omega
    have hw := wrap_succ hi (by unfold maxLen; omega)
    have hx' : (l.map V.str)[i]? = some (.str l[i]) := by simp [hi]
    have hs := hx _ (List.getElem_mem hi)
    have hlen : ((l.take i).flatMap tB).length ≤ 65537 * 500 := by
      have := flatMap_len tB 65537 (l.take i) fun a ha => tB_len a (hx a (List.mem_of_mem_take ha))
      rw [List.length_take] at this
      omega
    rw [flatMap_take tB l i hi, ← List.append_assoc]
    have hr' : (row ++ (l.take i).flatMap tB).length ≤ 33000000 := by rw [List.length_append]; omega
    generalize row ++ (l.take i).flatMap tB = r at hr' ⊢
    generalize l[i] = s at *
    have hT := ev_Text [] r l s (by omega) (by omega)
    rw [show beN s.length 2 ++ s = tB s from rfl] at hT
    simp [L9_1, eE, a1, hw, idxOk, hx', hT]
  · rw [List.take_length]; simp [L9_1, eE]

theorem yesI_le (b : Bool) : 0 ≤ yesI b ∧ yesI b ≤ 255 := by unfold yesI; cases b <;> simp

theorem wcLoop2 (c : Cls) (hc : c.Wf) (ho : c.Ok) (l : List Tx) (row : List UInt8) (hl : l.length ≤ 500) (hx : ∀ f ∈ c.fs, f.n ∈ l ∧ f.d ∈ l) (hr : row.length ≤ 34000000) :
    cv tab prim (.loop L9_2) { env := eE c [(97, .list 3 (c.fs.map Fld.v) false), (98, .int .i64 c.fs.length), (99, .int .i64 0)], mem := wM [] row l } = some (.exit 4, { env := eE c [], mem := wM [] (row ++ c.fs.flatMap (fB l)) l }) := by
  have h := loop_all (b := L9_2) (fun i => { env := eE c [(97, .list 3 (c.fs.map Fld.v) false), (98, .int .i64 c.fs.length), (99, .int .i64 i)], mem := wM [] (row ++ (c.fs.take i).flatMap (fB l)) l }) c.fs.length (.exit 4, { env := eE c [], mem := wM [] (row ++ c.fs.flatMap (fB l)) l }) (fun i hi => ?_) ?_ (by simp)
  · simpa using h
  · have a1 : (i : Int) < (c.fs.length : Int) := by omega
    have hw := wrap_succ hi hc.fs
    have hx' : (c.fs.map Fld.v)[i]? = some (Fld.v c.fs[i]) := by simp [hi]
    have hs := hx _ (List.getElem_mem hi)
    have hlen : ((c.fs.take i).flatMap (fB l)).length ≤ 5 * 20 := by
      have := flatMap_len (fB l) 5 (c.fs.take i) fun a _ => by rw [fB_len]; omega
      rw [List.length_take] at this
      have := ho.fs
      omega
    rw [flatMap_take (fB l) c.fs i hi, ← List.append_assoc]
    have hr' : (row ++ (c.fs.take i).flatMap (fB l)).length ≤ 34000100 := by rw [List.length_append]; omega
    generalize row ++ (c.fs.take i).flatMap (fB l) = r at hr' ⊢
    generalize c.fs[i] = f at *
    have hT := ev_wtext [] r l [f.n, f.d] false (by omega) (by simp [hs]) (by simp [maxLen]) (by simp [pl_len]; omega)
    rw [show [f.n, f.d].flatMap (pl l) = pl l f.n ++ pl l f.d from by simp] at hT
    unfold fB
    rw [← List.append_assoc]
    have n1 : (r ++ (pl l f.n ++ pl l f.d)).length ≤ 34000104 := by simp only [List.length_append, pl_len]; omega
    generalize r ++ (pl l f.n ++ pl l f.d) = w1 at *
    have hF := ev_flag f.s
    have hU := ev_U1 [] w1 l (yesI f.s) (yesI_le _).1 (yesI_le _).2 (by omega)
    generalize w1 ++ beN (yesI f.s) 1 = w2 at *
    simp only [List.map_cons, List.map_nil] at hT
    simp [L9_2, eE, a1, hw, idxOk, hx', Fld.v, hT, hF, hU]
  · rw [List.take_length]; simp [L9_2, eE]

theorem wcLoop3 (c : Cls) (hc : c.Wf) (ho : c.Ok) (l : List Tx) (row : List UInt8) (hl : l.length ≤ 500) (hx : ∀ m ∈ c.ms, ∀ s ∈ mT m, s ∈ l) (hr : row.length ≤ 35000000) :
    cv tab prim (.loop L9_3) { env := [(5, .ptr 2 21 0), (126, .list 8 (c.ms.map Mth.v) false), (127, .int .i64 c.ms.length), (128, .int .i64 0)], mem := wM [] row l } = some (.exit 6, { env := [(5, .ptr 2 21 0)], mem := wM [] (row ++ c.ms.flatMap (mB l)) l }) := by
  have h := loop_all (b := L9_3) (fun i => { env := [(5, .ptr 2 21 0), (126, .list 8 (c.ms.map Mth.v) false), (127, .int .i64 c.ms.length), (128, .int .i64 i)], mem := wM [] (row ++ (c.ms.take i).flatMap (mB l)) l }) c.ms.length (.exit 6, { env := [(5, .ptr 2 21 0)], mem := wM [] (row ++ c.ms.flatMap (mB l)) l }) (fun i hi => ?_) ?_ (by simp)
  · simpa using h
  · have a1 : (i : Int) < (c.ms.length : Int) := by omega
    have hw := wrap_succ hi hc.ms
    have hx' : (c.ms.map Mth.v)[i]? = some (Mth.v c.ms[i]) := by simp [hi]
    have hs := hx _ (List.getElem_mem hi)
    have hm := hc.mss _ (List.getElem_mem hi)
    have hmo := ho.mss _ (List.getElem_mem hi)
    have hlen : ((c.ms.take i).flatMap (mB l)).length ≤ 4000 * 20 := by
      have := flatMap_len (mB l) 4000 (c.ms.take i) fun a ha => mB_len l a (ho.mss a (List.mem_of_mem_take ha))
      rw [List.length_take] at this
      have := ho.ms
      omega
    rw [flatMap_take (mB l) c.ms i hi, ← List.append_assoc]
    have hr' : (row ++ (c.ms.take i).flatMap (mB l)).length ≤ 35080000 := by rw [List.length_append]; omega
    generalize row ++ (c.ms.take i).flatMap (mB l) = r at hr' ⊢
    generalize c.ms[i] = m at *
    have hW := ev_wmethod [] r l m hm hmo (by omega) hs (by omega)
    generalize r ++ mB l m = w1 at *
    unfold Mth.v Mth.cells at hW
    simp [L9_3, a1, hw, idxOk, hx', Mth.v, Mth.cells, hW]
  · rw [List.take_length]; simp [L9_3]

theorem ev_Encode_bad (c : Cls) (hc : c.Wf) (hs : c.Small) (he : c.err ≠ 0) : ev tab prim 9 [c.v] [[], []] = some (.tup [.list 1 [] true, .int .i64 c.err], [[], []]) := by
  have h := ev_Check c hc hs
  have e : (c.err == 0) = false := by simpa using he
  generalize c.err = x at *
  unfold Cls.v Cls.cells at *
  rw [ev_fn' tab prim (f := 9) rfl _ _ rfl]
  simp [h, e, bne]

theorem addL_le (n : Nat) : ∀ (xs l : List Tx), (∀ x ∈ xs, x.length ≤ n) → (∀ x ∈ l, x.length ≤ n) → ∀ x ∈ addL l xs, x.length ≤ n := by
  intro xs l h1 h2 x hx
  rcases (addL_mem xs).1 hx with h | h
  · exact h2 x h
  · exact h1 x h

theorem texts_le (c : Cls) (hs : c.Small) : ∀ x ∈ c.texts, x.length ≤ 65535 := by
  intro x hx
  simp only [Cls.texts, List.mem_append, List.mem_flatMap, List.mem_cons, List.not_mem_nil, or_false] at hx
  rcases hx with (rfl | rfl) | h | ⟨f, hf, h⟩ | ⟨m, hm, h⟩
  · exact hs.n
  · exact hs.s
  · exact hs.ims x h
  · simp only [fT, List.mem_cons, List.not_mem_nil, or_false] at h
    rcases h with rfl | rfl
    · exact (hs.fss f hf).1
    · exact (hs.fss f hf).2
  · have hq := hs.mss m hm
    simp only [mT, List.mem_append, List.mem_flatMap, List.mem_cons, List.not_mem_nil, or_false, List.mem_map] at h
    rcases h with (rfl | rfl) | ⟨y, hy, h⟩ | ⟨y, hy, rfl⟩
    · exact hq.n
    · exact hq.d
    · have := hq.ins y hy
      unfold Ins.texts at h
      simp only [List.mem_append] at h
      rcases h with h | h | h
      · cases hb : rowB y.o 3 <;> rw [hb] at h <;> simp at h; rw [h]; exact this.1
      · cases hb : rowB y.o 4 <;> rw [hb] at h <;> simp at h; rw [h]; exact this.2.1
      · cases hb : rowB y.o 5 <;> rw [hb] at h <;> simp at h; rw [h]; exact this.2.2
    · exact hq.hnd y hy

set_option maxHeartbeats 16000000 in
theorem ev_Encode_ok (c : Cls) (hc : c.Wf) (hs : c.Small) (he : c.err = 0) : ∃ M, ev tab prim 9 [c.v] [[], []] = some (.tup [.list 1 (c.bytes.map byteV) true, .int .i64 0], M) := by
  have ho := c.ok_of he
  have h := ev_Check c hc hs
  rw [he] at h
  have hP := ev_poolOf c hc (by have := hs.tx; omega)
  have hmem : ∀ t, t ∈ c.texts → t ∈ c.pool := fun t ht => (addL_mem _).2 (.inr ht)
  have hle : ∀ x ∈ c.pool, x.length ≤ 65535 := addL_le 65535 c.texts [] (texts_le c hs) (by simp)
  have hl := ho.pool
  have q1 := ho.im
  have q2 := ho.fs
  have q3 := ho.ms
  have m1 : c.n ∈ c.pool := hmem _ (by simp [Cls.texts])
  have m2 : c.s ∈ c.pool := hmem _ (by simp [Cls.texts])
  have m3 : ∀ s ∈ c.im, s ∈ c.pool := fun s h => hmem _ (by simp [Cls.texts, h])
  have m4 : ∀ f ∈ c.fs, f.n ∈ c.pool ∧ f.d ∈ c.pool := fun f h => by
    refine ⟨hmem _ ?_, hmem _ ?_⟩ <;> simp only [Cls.texts, List.mem_append, List.mem_flatMap] <;> exact .inr (.inr (.inl ⟨f, h, by simp [fT]⟩))
  have m5 : ∀ m ∈ c.ms, ∀ s ∈ mT m, s ∈ c.pool := fun m h s h' => hmem _ (by simp only [Cls.texts, List.mem_append, List.mem_flatMap]; exact .inr (.inr (.inr ⟨m, h, h'⟩)))
  unfold Cls.bytes Cls.bytesL
  generalize c.pool = l at *
  have l0 := wcLoop0 c l
  have hw0 : ([83, 66, 67, 49] : List UInt8).length ≤ 4 := by simp
  generalize ([83, 66, 67, 49] : List UInt8) = w0 at *
  have u1 := ev_U2 [] w0 l l.length (by omega) (by omega) (by omega)
  have n1 : (w0 ++ beN l.length 2).length ≤ 6 := by rw [List.length_append, beN_len]; omega
  generalize w0 ++ beN l.length 2 = w1 at *
  have l1 := wcLoop1 c l w1 hl hle (by omega)
  have n2 : (w1 ++ l.flatMap tB).length ≤ 33000000 := by
    have := flatMap_len tB 65537 l fun a ha => tB_len a (hle a ha)
    rw [List.length_append]; omega
  generalize w1 ++ l.flatMap tB = w2 at *
  have t1 := ev_wtext [] w2 l [c.n, c.s] false (by omega) (by simp [m1, m2]) (by simp [maxLen]) (by simp [pl_len]; omega)
  rw [show [c.n, c.s].flatMap (pl l) = pl l c.n ++ pl l c.s from by simp, ← List.append_assoc] at t1
  have n3 : (w2 ++ pl l c.n ++ pl l c.s).length ≤ 33000004 := by simp only [List.length_append, pl_len]; omega
  generalize w2 ++ pl l c.n ++ pl l c.s = w3 at *
  have f1 := ev_flag c.i
  have f2 := ev_flag c.a
  have u2 := ev_U1 [] w3 l (yesI c.i) (yesI_le _).1 (yesI_le _).2 (by omega)
  have n4 : (w3 ++ beN (yesI c.i) 1).length ≤ 33000005 := by rw [List.length_append, beN_len]; omega
  generalize w3 ++ beN (yesI c.i) 1 = w4 at *
  have u3 := ev_U1 [] w4 l (yesI c.a) (yesI_le _).1 (yesI_le _).2 (by omega)
  have n5 : (w4 ++ beN (yesI c.a) 1).length ≤ 33000006 := by rw [List.length_append, beN_len]; omega
  generalize w4 ++ beN (yesI c.a) 1 = w5 at *
  have u4 := ev_U2 [] w5 l c.im.length (by omega) (by omega) (by omega)
  have n6 : (w5 ++ beN c.im.length 2).length ≤ 33000008 := by rw [List.length_append, beN_len]; omega
  generalize w5 ++ beN c.im.length 2 = w6 at *
  have n7 : (c.im.flatMap (pl l)).length ≤ 60 := by
    have := flatMap_len (pl l) 2 c.im fun a _ => by rw [pl_len]; omega
    omega
  have t2 := ev_wtext [] w6 l c.im false (by omega) m3 hc.im (by omega)
  have n7' : (w6 ++ c.im.flatMap (pl l)).length ≤ 33000068 := by rw [List.length_append]; omega
  generalize w6 ++ c.im.flatMap (pl l) = w7 at *
  have u5 := ev_U2 [] w7 l c.fs.length (by omega) (by omega) (by omega)
  have n8 : (w7 ++ beN c.fs.length 2).length ≤ 33000070 := by rw [List.length_append, beN_len]; omega
  generalize w7 ++ beN c.fs.length 2 = w8 at *
  have l2 := wcLoop2 c hc ho l w8 hl m4 (by omega)
  have n9 : (w8 ++ c.fs.flatMap (fB l)).length ≤ 33000170 := by
    have := flatMap_len (fB l) 5 c.fs fun a _ => by rw [fB_len]; omega
    rw [List.length_append]; omega
  generalize w8 ++ c.fs.flatMap (fB l) = w9 at *
  have u6 := ev_U2 [] w9 l c.ms.length (by omega) (by omega) (by omega)
  have n10 : (w9 ++ beN c.ms.length 2).length ≤ 33000172 := by rw [List.length_append, beN_len]; omega
  generalize w9 ++ beN c.ms.length 2 = w10 at *
  have l3 := wcLoop3 c hc ho l w10 hl m5 (by omega)
  have n11 : (w10 ++ c.ms.flatMap (mB l)).length ≤ 33100000 := by
    have := flatMap_len (mB l) 4000 c.ms fun a ha => mB_len l a (ho.mss a ha)
    rw [List.length_append]; omega
  generalize w10 ++ c.ms.flatMap (mB l) = w11 at *
  have hB := ev_Bytes [] w11 l (by omega)
  simp only [eE, Cls.cells] at l0 l1 l2
  simp only [List.map_cons, List.map_nil] at t1
  refine ⟨pM l, ?_⟩
  unfold Cls.v Cls.cells at *
  rw [ev_fn' tab prim (f := 9) rfl _ _ rfl]
  simp [h, hP, wM_new, wcs, l0, l1, l2, l3, u1, u2, u3, u4, u5, u6, t1, t2, f1, f2, hB]
  rw [show wM [] w11 l = [(21, wcs w11)] :: pM l from rfl]
  simp

/-! A class, as the document writes it: its loops. -/
/-! A class, as the document writes it. -/
theorem beN_one (n : Int) : beN n 1 = [byteOf n] := by
  have : n.fdiv (2 ^ (8 * 0)) = n := by simp
  rw [beN, this]; rfl

/-! `V.strip`, constructor by constructor: for rows that are kept folded, with `-V.strip`. -/
@[simp] theorem st_bool (b : Bool) : (V.bool b).strip = .bool b := nrfl rfl
@[simp] theorem st_int (k : IntKind) (n : Int) : (V.int k n).strip = .int k n := nrfl rfl
@[simp] theorem st_str (s : List UInt8) : (V.str s).strip = .str s := nrfl rfl
@[simp] theorem st_list (k : Nat) (xs : List V) (o : Bool) : (V.list k xs o).strip = .list k xs false := nrfl rfl
@[simp] theorem st_agg (xs : List V) : (V.agg xs).strip = .agg xs := nrfl rfl
@[simp] theorem st_cptr (xs : List V) : (V.cptr xs).strip = .cptr xs := nrfl rfl
@[simp] theorem st_fptr (k : Nat) : (V.fptr k).strip = .junk := nrfl rfl
@[simp] theorem st_junk : V.junk.strip = .junk := nrfl rfl
@[simp] theorem st_undef : V.undef.strip = .undef := nrfl rfl
@[simp] theorem st_tup (vs : List V) : (V.tup vs).strip = .tup (vs.map V.strip1) := nrfl rfl
@[simp] theorem st_ptr (a b c : Nat) : (V.ptr a b c).strip = .ptr a b c := nrfl rfl

/-- Rows of bytes: owned, and not. -/
def oB (r : List UInt8) : V := .list 1 (r.map byteV) true
def uB (r : List UInt8) : V := .list 1 (r.map byteV) false
@[simp ↓ high] theorem oB_strip (r : List UInt8) : (oB r).strip = uB r := nrfl rfl
@[simp ↓ high] theorem uB_strip (r : List UInt8) : (uB r).strip = uB r := nrfl rfl
@[simp ↓ high] theorem oB_deep (r : List UInt8) : deepLocal (oB r) = false := nrfl rfl
@[simp ↓ high] theorem oB_notTup (r : List UInt8) : notTup (oB r) = some (oB r) := nrfl rfl
@[simp ↓ high] theorem oB_noPtr1 (k : Nat) (r : List UInt8) : noPtr1 k (oB r) = true := nrfl rfl
@[simp ↓ high] theorem oB_noPtr (k : Nat) (r : List UInt8) : noPtr k (oB r) = true := nrfl rfl
@[simp ↓ high] theorem oB_cvb (x : UInt8) (r : List UInt8) : rCvb [oB (x :: r)] = some (oB (x :: r)) := nrfl rfl
theorem app_oB (r b : List UInt8) (h : r.length + b.length ≤ 70368744177664) : rAppend 1 1 [oB r, uB b] = some (oB (r ++ b)) := by
  unfold oB uB rAppend
  simp only [List.length_map]
  rw [if_pos ⟨trivial, trivial, by omega, by omega⟩, List.map_append]
theorem apps_oB (r : List UInt8) (s : Tx) (h : r.length + s.length ≤ 70368744177664) : rAppends [oB r, .str s] = some (oB (r ++ s)) := by
  unfold oB rAppends
  simp only [List.length_map]
  rw [if_pos (by omega), List.map_append]
theorem app_1 (r : List UInt8) (a : Int) (h : r.length ≤ 70000000000000) : rAppend 1 1 [oB r, .list 1 [.int .u8 (IntKind.u8.wrap a)] false] = some (oB (r ++ beN a 1)) := by
  rw [← app_oB r (beN a 1) (by rw [beN_len]; omega), beN_one, uB, List.map_cons, byteV_of, List.map_nil]
theorem app_2 (r : List UInt8) (a b : Int) (h : r.length ≤ 70000000000000) : rAppend 1 1 [oB r, .list 1 [.int .u8 (IntKind.u8.wrap a), .int .u8 (IntKind.u8.wrap b)] false] = some (oB (r ++ beN a 1 ++ beN b 1)) := by
  rw [List.append_assoc, ← app_oB r (beN a 1 ++ beN b 1) (by rw [List.length_append, beN_len, beN_len]; omega), beN_one, beN_one, uB]
  simp only [List.cons_append, List.nil_append, List.map_cons, byteV_of, List.map_nil]
theorem app_4 (r : List UInt8) (a b c d : Int) (h : r.length ≤ 70000000000000) : rAppend 1 1 [oB r, .list 1 [.int .u8 (IntKind.u8.wrap a), .int .u8 (IntKind.u8.wrap b), .int .u8 (IntKind.u8.wrap c), .int .u8 (IntKind.u8.wrap d)] false] = some (oB (r ++ beN a 1 ++ beN b 1 ++ beN c 1 ++ beN d 1)) := by
  rw [List.append_assoc, List.append_assoc, List.append_assoc, ← app_oB r (beN a 1 ++ (beN b 1 ++ (beN c 1 ++ beN d 1))) (by simp only [List.length_append, beN_len]; omega), beN_one, beN_one, beN_one, beN_one, uB]
  simp only [List.cons_append, List.nil_append, List.map_cons, byteV_of, List.map_nil]

theorem u64_u8 (n : Int) (d : Int) (hd : d = 1 ∨ d = 256 ∨ d = 65536 ∨ d = 16777216) : IntKind.u8.wrap ((IntKind.u64.wrap n).fdiv d) = IntKind.u8.wrap (n.fdiv d) := by
  have e : IntKind.u64.wrap n = n % 18446744073709551616 := rfl
  rw [wrap_u8, wrap_u8, e]
  rcases hd with rfl | rfl | rfl | rfl <;> rw [Int.fdiv_eq_ediv_of_nonneg _ (by omega), Int.fdiv_eq_ediv_of_nonneg _ (by omega)] <;> omega

set_option maxHeartbeats 4000000 in
theorem ev_rU2 (n : Int) : ev tab prim 42 [.int .i64 n, .int .i64 2] [[], []] = some (oB (beN n 2), [[], []]) := by
  have w0 : IntKind.i64.wrap 0 = 0 := rfl
  have w1 : IntKind.i64.wrap 1 = 1 := rfl
  have w2 : IntKind.i64.wrap 2 = 2 := rfl
  have w8 : IntKind.i64.wrap 8 = 8 := rfl
  have wb : IntKind.u64.bits = 64 := rfl
  have f0 := u64_u8 n 1 (by omega)
  have f1 := u64_u8 n 256 (by omega)
  have e : oB (beN n 2) = .list 1 [.int .u8 (IntKind.u8.wrap (n.fdiv 256)), .int .u8 (IntKind.u8.wrap (n.fdiv 1))] true := by
    unfold oB; simp only [beN, List.map_cons, byteV_of, List.map_nil]; rfl
  simp only [Int.fdiv_one] at f0 e
  rw [ev_fn' tab prim (f := 42) rfl _ _ rfl, e]
  simp [L42_0, cv_loop', w0, w1, w2, w8, wb, idxOk, f0, f1]

set_option maxHeartbeats 4000000 in
theorem ev_rU4 (n : Int) : ev tab prim 42 [.int .i64 n, .int .i64 4] [[], []] = some (oB (beN n 4), [[], []]) := by
  have w0 : IntKind.i64.wrap 0 = 0 := rfl
  have w1 : IntKind.i64.wrap 1 = 1 := rfl
  have w2 : IntKind.i64.wrap 2 = 2 := rfl
  have w3 : IntKind.i64.wrap 3 = 3 := rfl
  have w4 : IntKind.i64.wrap 4 = 4 := rfl
  have w8 : IntKind.i64.wrap 8 = 8 := rfl
  have w16 : IntKind.i64.wrap 16 = 16 := rfl
  have w24 : IntKind.i64.wrap 24 = 24 := rfl
  have wb : IntKind.u64.bits = 64 := rfl
  have f0 := u64_u8 n 1 (by omega)
  have f1 := u64_u8 n 256 (by omega)
  have f2 := u64_u8 n 65536 (by omega)
  have f3 := u64_u8 n 16777216 (by omega)
  have e : oB (beN n 4) = .list 1 [.int .u8 (IntKind.u8.wrap (n.fdiv 16777216)), .int .u8 (IntKind.u8.wrap (n.fdiv 65536)), .int .u8 (IntKind.u8.wrap (n.fdiv 256)), .int .u8 (IntKind.u8.wrap (n.fdiv 1))] true := by
    unfold oB; simp only [beN, List.map_cons, byteV_of, List.map_nil]; rfl
  simp only [Int.fdiv_one] at f0 e
  rw [ev_fn' tab prim (f := 42) rfl _ _ rfl, e]
  simp [L42_0, cv_loop', w0, w1, w2, w3, w4, w8, w16, w24, wb, idxOk, f0, f1, f2, f3]

theorem ev_rText (s : Tx) (hs : s.length ≤ 65535) : ev tab prim 43 [.str s] [[], []] = some (oB (tB s), [[], []]) := by
  have h := ev_rU2 s.length
  have ha := apps_oB (beN s.length 2) s (by rw [beN_len]; omega)
  rw [show beN s.length 2 ++ s = tB s from rfl] at ha
  rw [ev_fn' tab prim (f := 43) rfl _ _ rfl]
  simp [h, ha, -rAppends]
  rfl

theorem ev_rplace (l : List Tx) (s : Tx) (hl : l.length ≤ maxLen) (o : Bool) : ev tab prim 44 [.list 1 (l.map V.str) o, .str s] [[], []] = some (oB (pl l s), [[], []]) := by
  have h1 := ev_in l s hl false
  have h := ev_rU2 (posI (posOf 0 l s))
  rw [ev_fn' tab prim (f := 44) rfl _ _ rfl]
  unfold pl
  simp [h1, h]
  rfl

theorem ev_ryes (b : Bool) : ev tab prim 45 [.bool b] [[], []] = some (.int .u8 (IntKind.u8.wrap (yesI b)), [[], []]) := by
  have w1 : IntKind.u8.wrap 1 = 1 := rfl
  have w0 : IntKind.u8.wrap 0 = 0 := rfl
  rw [ev_fn' tab prim (f := 45) rfl _ _ rfl]
  cases b <;> simp [yesI, w0, w1]

/-! A class, as the document writes it: its loops. -/
def rE (c : Cls) (l : List Tx) (row : List UInt8) (r : Env) : Env := (1, .cptr c.cells) :: (5, .list 1 (l.map V.str) false) :: (6, oB row) :: r

theorem reLoop0 (c : Cls) (l : List Tx) (row : List UInt8) (hl : l.length ≤ 500) (hx : ∀ s ∈ l, s.length ≤ 65535) (hr : row.length ≤ 1000) :
    cv tab prim (.loop L14_0) { env := rE c l row [(7, .int .i64 0)], mem := [[], [], []] } = some (.exit 0, { env := rE c l (row ++ l.flatMap tB) [], mem := [[], [], []] }) := by
  have h := loop_all (b := L14_0) (fun i => { env := rE c l (row ++ (l.take i).flatMap tB) [(7, .int .i64 i)], mem := [[], [], []] }) l.length (.exit 0, { env := rE c l (row ++ l.flatMap tB) [], mem := [[], [], []] }) (fun i hi => ?_) ?_ (by simp)
  · simpa using h
  · have a1 : (i : Int) < (l.length : Int) := by omega
    have hw := wrap_succ hi (by unfold maxLen; omega)
    have hx' : (l.map V.str)[i]? = some (.str l[i]) := by simp [hi]
    have hs := hx _ (List.getElem_mem hi)
    have hlen : ((l.take i).flatMap tB).length ≤ 65537 * 500 := by
      have := flatMap_len tB 65537 (l.take i) fun a ha => tB_len a (hx a (List.mem_of_mem_take ha))
      rw [List.length_take] at this
      omega
    rw [flatMap_take tB l i hi, ← List.append_assoc]
    have hr' : (row ++ (l.take i).flatMap tB).length ≤ 33000000 := by rw [List.length_append]; omega
    generalize row ++ (l.take i).flatMap tB = r at hr' ⊢
    generalize l[i] = s at *
    have hT := ev_rText s (by omega)
    have hA := app_oB r (tB s) (by have := tB_len s hs; omega)
    simp [L14_0, rE, a1, hw, idxOk, hx', hT, hA, -rAppend, -V.strip]
  · rw [List.take_length]; simp [L14_0, rE]

theorem reLoop1 (c : Cls) (hc : c.Wf) (ho : c.Ok) (l : List Tx) (row : List UInt8) (hl : l.length ≤ 500) (hr : row.length ≤ 34000000) :
    cv tab prim (.loop L14_1) { env := rE c l row [(8, .int .i64 0)], mem := [[], [], []] } = some (.exit 2, { env := rE c l (row ++ c.im.flatMap (pl l)) [], mem := [[], [], []] }) := by
  have h := loop_all (b := L14_1) (fun i => { env := rE c l (row ++ (c.im.take i).flatMap (pl l)) [(8, .int .i64 i)], mem := [[], [], []] }) c.im.length (.exit 2, { env := rE c l (row ++ c.im.flatMap (pl l)) [], mem := [[], [], []] }) (fun i hi => ?_) ?_ (by simp)
  · simpa using h
  · have a1 : (i : Int) < (c.im.length : Int) := by omega
    have hw := wrap_succ hi hc.im
    have hx' : (c.im.map V.str)[i]? = some (.str c.im[i]) := by simp [hi]
    have hlen : ((c.im.take i).flatMap (pl l)).length ≤ 2 * 30 := by
      have := flatMap_len (pl l) 2 (c.im.take i) fun a _ => by rw [pl_len]; omega
      rw [List.length_take] at this
      have := ho.im
      omega
    rw [flatMap_take (pl l) c.im i hi, ← List.append_assoc]
    have hr' : (row ++ (c.im.take i).flatMap (pl l)).length ≤ 34000060 := by rw [List.length_append]; omega
    generalize row ++ (c.im.take i).flatMap (pl l) = r at hr' ⊢
    generalize c.im[i] = s at *
    have hT := ev_rplace l s (by unfold maxLen; omega) false
    have hA := app_oB r (pl l s) (by rw [pl_len]; omega)
    simp [L14_1, rE, Cls.cells, a1, hw, idxOk, hx', hT, hA, -rAppend, -V.strip]
  · rw [List.take_length]; simp [L14_1, rE, Cls.cells, -V.strip]

theorem reLoop2 (c : Cls) (hc : c.Wf) (ho : c.Ok) (l : List Tx) (row : List UInt8) (hl : l.length ≤ 500) (hr : row.length ≤ 34000000) :
    cv tab prim (.loop L14_2) { env := rE c l row [(9, .int .i64 0)], mem := [[], [], []] } = some (.exit 4, { env := rE c l (row ++ c.fs.flatMap (fB l)) [], mem := [[], [], []] }) := by
  have h := loop_all (b := L14_2) (fun i => { env := rE c l (row ++ (c.fs.take i).flatMap (fB l)) [(9, .int .i64 i)], mem := [[], [], []] }) c.fs.length (.exit 4, { env := rE c l (row ++ c.fs.flatMap (fB l)) [], mem := [[], [], []] }) (fun i hi => ?_) ?_ (by simp)
  · simpa using h
  · have a1 : (i : Int) < (c.fs.length : Int) := by omega
    have hw := wrap_succ hi hc.fs
    have hx' : (c.fs.map Fld.v)[i]? = some (Fld.v c.fs[i]) := by simp [hi]
    have hlen : ((c.fs.take i).flatMap (fB l)).length ≤ 5 * 20 := by
      have := flatMap_len (fB l) 5 (c.fs.take i) fun a _ => by rw [fB_len]; omega
      rw [List.length_take] at this
      have := ho.fs
      omega
    rw [flatMap_take (fB l) c.fs i hi, ← List.append_assoc]
    have hr' : (row ++ (c.fs.take i).flatMap (fB l)).length ≤ 34000100 := by rw [List.length_append]; omega
    generalize row ++ (c.fs.take i).flatMap (fB l) = r at hr' ⊢
    generalize c.fs[i] = f at *
    unfold fB
    rw [← List.append_assoc, ← List.append_assoc]
    have t1 := ev_rplace l f.n (by unfold maxLen; omega) false
    have t2 := ev_rplace l f.d (by unfold maxLen; omega) false
    have t3 := ev_ryes f.s
    have p1 := app_oB r (pl l f.n) (by rw [pl_len]; omega)
    have n1 : (r ++ pl l f.n).length ≤ 34000102 := by rw [List.length_append, pl_len]; omega
    generalize r ++ pl l f.n = w1 at *
    have p2 := app_oB w1 (pl l f.d) (by rw [pl_len]; omega)
    have n2 : (w1 ++ pl l f.d).length ≤ 34000104 := by rw [List.length_append, pl_len]; omega
    generalize w1 ++ pl l f.d = w2 at *
    have p3 := app_1 w2 (yesI f.s) (by omega)
    generalize w2 ++ beN (yesI f.s) 1 = w3 at *
    simp [L14_2, rE, Cls.cells, a1, hw, idxOk, hx', Fld.v, t1, t2, t3, p1, p2, p3, -rAppend, -V.strip]
  · rw [List.take_length]; simp [L14_2, rE, Cls.cells, -V.strip]

def rM (c : Cls) (l : List Tx) (row : List UInt8) (j : Nat) (m : Mth) (r : Env) : Env := rE c l row ((11, .int .i64 j) :: (12, .cptr m.cells) :: r)

theorem texts_flat (l : List Tx) (x : Ins) : x.texts.flatMap (pl l) = (bif rowB x.o 3 then pl l x.c else []) ++ ((bif rowB x.o 4 then pl l x.n else []) ++ (bif rowB x.o 5 then pl l x.d else [])) := by
  unfold Ins.texts
  cases rowB x.o 3 <;> cases rowB x.o 4 <;> cases rowB x.o 5 <;> simp

theorem app_if (w : List UInt8) (b : Bool) (y : List UInt8) (h : w.length + y.length ≤ 70368744177664) : (bif b then rAppend 1 1 [oB w, uB y] else some (oB w)) = some (oB (w ++ (bif b then y else []))) := by
  cases b
  · simp
  · exact app_oB w y h
theorem len_if (w : List UInt8) (b : Bool) (y : List UInt8) : (w ++ (bif b then y else [])).length ≤ w.length + y.length := by
  cases b <;> simp

set_option maxHeartbeats 64000000 in
theorem reLoop3 (c : Cls) (l : List Tx) (j : Nat) (m : Mth) (hm : m.Wf) (ho : m.Ok) (row : List UInt8) (hl : l.length ≤ 500) (hr : row.length ≤ 35000000) :
    cv tab prim (.loop L14_3) { env := rM c l row j m [(13, .int .i64 0)], mem := [[], [], []] } = some (.exit 8, { env := rM c l (row ++ m.code.flatMap (iB l)) j m [], mem := [[], [], []] }) := by
  have h := loop_all (b := L14_3) (fun i => { env := rM c l (row ++ (m.code.take i).flatMap (iB l)) j m [(13, .int .i64 i)], mem := [[], [], []] }) m.code.length (.exit 8, { env := rM c l (row ++ m.code.flatMap (iB l)) j m [], mem := [[], [], []] }) (fun i hi => ?_) ?_ (by simp)
  · simpa using h
  · have a1 : (i : Int) < (m.code.length : Int) := by omega
    have hw := wrap_succ hi hm.code
    have hx' : (m.code.map Ins.v)[i]? = some (Ins.v m.code[i]) := by simp [hi]
    have hlen : ((m.code.take i).flatMap (iB l)).length ≤ 15 * 200 := by
      have := flatMap_len (iB l) 15 (m.code.take i) fun a _ => iB_len l a
      rw [List.length_take] at this
      have := ho.code
      omega
    rw [flatMap_take (iB l) m.code i hi, ← List.append_assoc]
    have hr' : (row ++ (m.code.take i).flatMap (iB l)).length ≤ 35003000 := by rw [List.length_append]; omega
    generalize row ++ (m.code.take i).flatMap (iB l) = r at hr' ⊢
    generalize m.code[i] = x at *
    have h40 := ev41 x.o
    rw [shapeOf_eq] at h40
    have t1 := ev_rU4 x.a
    have t2 := ev_rU4 x.b
    have t3 := ev_rplace l x.c (by unfold maxLen; omega) false
    have t4 := ev_rplace l x.n (by unfold maxLen; omega) false
    have t5 := ev_rplace l x.d (by unfold maxLen; omega) false
    unfold iB
    rw [texts_flat]
    simp only [← List.append_assoc]
    generalize rowB x.o 1 = r1 at *
    generalize rowB x.o 2 = r2 at *
    generalize rowB x.o 3 = r3 at *
    generalize rowB x.o 4 = r4 at *
    generalize rowB x.o 5 = r5 at *
    have F0 := app_1 r x.o (by omega)
    have n0 : (r ++ beN x.o 1).length ≤ 35003001 := by rw [List.length_append, beN_len]; omega
    generalize r ++ beN x.o 1 = w0 at *
    have b1 := beN_len x.a 4
    have b2 := beN_len x.b 4
    have b3 := pl_len l x.c
    have b4 := pl_len l x.n
    have b5 := pl_len l x.d
    have F1 := app_if w0 r1 (beN x.a 4) (by omega)
    have n1 := len_if w0 r1 (beN x.a 4)
    generalize w0 ++ (bif r1 then beN x.a 4 else []) = w1 at *
    have F2 := app_if w1 r2 (beN x.b 4) (by omega)
    have n2 := len_if w1 r2 (beN x.b 4)
    generalize w1 ++ (bif r2 then beN x.b 4 else []) = w2 at *
    have F3 := app_if w2 r3 (pl l x.c) (by omega)
    have n3 := len_if w2 r3 (pl l x.c)
    generalize w2 ++ (bif r3 then pl l x.c else []) = w3 at *
    have F4 := app_if w3 r4 (pl l x.n) (by omega)
    have n4 := len_if w3 r4 (pl l x.n)
    generalize w3 ++ (bif r4 then pl l x.n else []) = w4 at *
    have F5 := app_if w4 r5 (pl l x.d) (by omega)
    generalize w4 ++ (bif r5 then pl l x.d else []) = w5 at *
    cases r1 <;> cases r2 <;> cases r3 <;> cases r4 <;> cases r5 <;> simp only [cond_true, cond_false, Option.some.injEq] at F1 F2 F3 F4 F5 <;>
      simp [L14_3, rM, rE, Mth.cells, a1, hw, idxOk, hx', Ins.v, h40, t1, t2, t3, t4, t5, F0, F1, F2, F3, F4, F5, -rAppend, -V.strip]
  · rw [List.take_length]; simp [L14_3, rM, rE, Mth.cells, -V.strip]

theorem reLoop4 (c : Cls) (l : List Tx) (j : Nat) (m : Mth) (hm : m.Wf) (ho : m.Ok) (row : List UInt8) (hl : l.length ≤ 500) (hr : row.length ≤ 35100000) :
    cv tab prim (.loop L14_4) { env := rM c l row j m [(17, .int .i64 0)], mem := [[], [], []] } = some (.exit 10, { env := rE c l (row ++ m.hs.flatMap (hB l)) [(11, .int .i64 j)], mem := [[], [], []] }) := by
  have h := loop_all (b := L14_4) (fun i => { env := rM c l (row ++ (m.hs.take i).flatMap (hB l)) j m [(17, .int .i64 i)], mem := [[], [], []] }) m.hs.length (.exit 10, { env := rE c l (row ++ m.hs.flatMap (hB l)) [(11, .int .i64 j)], mem := [[], [], []] }) (fun i hi => ?_) ?_ (by simp)
  · simpa using h
  · have a1 : (i : Int) < (m.hs.length : Int) := by omega
    have hw := wrap_succ hi hm.hs
    have hx' : (m.hs.map Hnd.v)[i]? = some (Hnd.v m.hs[i]) := by simp [hi]
    have hlen : ((m.hs.take i).flatMap (hB l)).length ≤ 8 * 20 := by
      have := flatMap_len (hB l) 8 (m.hs.take i) fun a _ => by rw [hB_len]; omega
      rw [List.length_take] at this
      have := ho.hs
      omega
    rw [flatMap_take (hB l) m.hs i hi, ← List.append_assoc]
    have hr' : (row ++ (m.hs.take i).flatMap (hB l)).length ≤ 35100160 := by rw [List.length_append]; omega
    generalize row ++ (m.hs.take i).flatMap (hB l) = r at hr' ⊢
    generalize m.hs[i] = x at *
    unfold hB
    simp only [← List.append_assoc]
    have t1 := ev_rU2 x.f
    have t2 := ev_rU2 x.t
    have t3 := ev_rU2 x.a
    have t4 := ev_rplace l x.c (by unfold maxLen; omega) false
    have p1 := app_oB r (beN x.f 2) (by rw [beN_len]; omega)
    have n1 : (r ++ beN x.f 2).length ≤ 35100162 := by rw [List.length_append, beN_len]; omega
    generalize r ++ beN x.f 2 = w1 at *
    have p2 := app_oB w1 (beN x.t 2) (by rw [beN_len]; omega)
    have n2 : (w1 ++ beN x.t 2).length ≤ 35100164 := by rw [List.length_append, beN_len]; omega
    generalize w1 ++ beN x.t 2 = w2 at *
    have p3 := app_oB w2 (beN x.a 2) (by rw [beN_len]; omega)
    have n3 : (w2 ++ beN x.a 2).length ≤ 35100166 := by rw [List.length_append, beN_len]; omega
    generalize w2 ++ beN x.a 2 = w3 at *
    have p4 := app_oB w3 (pl l x.c) (by rw [pl_len]; omega)
    generalize w3 ++ pl l x.c = w4 at *
    simp [L14_4, rM, rE, Mth.cells, a1, hw, idxOk, hx', Hnd.v, t1, t2, t3, t4, p1, p2, p3, p4, -rAppend, -V.strip]
  · rw [List.take_length]; simp [L14_4, rM, rE, Mth.cells, -V.strip]

end Go.Proofs.YtgmlanhhjmhmmaaGreat.Ev
