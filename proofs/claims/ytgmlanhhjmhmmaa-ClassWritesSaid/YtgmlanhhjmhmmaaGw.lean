/- A class, as the document writes it: its loops. -/
import Derived.Test.YtgmlanhhjmhmmaaGu
namespace Go.Proofs.Ytgmlanhhjmhmmaa.Ev
open Go

/-! A class, as the document writes it. -/
theorem beN_one (n : Int) : beN n 1 = [byteOf n] := by
  have : n.fdiv (2 ^ (8 * 0)) = n := by simp
  rw [beN, this]; rfl

/-! `V.strip`, constructor by constructor: for rows that are kept folded, with `-V.strip`. -/
@[simp] theorem st_bool (b : Bool) : (V.bool b).strip = .bool b := nrfl rfl
@[simp] theorem st_int (k : IntKind) (n : Int) : (V.int k n).strip = .int k n := nrfl rfl
@[simp] theorem st_str (s : List UInt8) : (V.str s).strip = .str s := nrfl rfl
@[simp] theorem st_list (k : Nat) (xs : List V) (o : Bool) : (V.list k xs o).strip = .list k xs false := nrfl rfl
@[simp] theorem st_agg (xs : List V) : (V.agg xs).strip = .agg xs := nrfl rfl
@[simp] theorem st_cptr (xs : List V) : (V.cptr xs).strip = .cptr xs := nrfl rfl
@[simp] theorem st_fptr (k : Nat) : (V.fptr k).strip = .junk := nrfl rfl
@[simp] theorem st_junk : V.junk.strip = .junk := nrfl rfl
@[simp] theorem st_undef : V.undef.strip = .undef := nrfl rfl
@[simp] theorem st_tup (vs : List V) : (V.tup vs).strip = .tup (vs.map V.strip1) := nrfl rfl
@[simp] theorem st_ptr (a b c : Nat) : (V.ptr a b c).strip = .ptr a b c := nrfl rfl

/-- Rows of bytes: owned, and not. -/
def oB (r : List UInt8) : V := .list 1 (r.map byteV) true
def uB (r : List UInt8) : V := .list 1 (r.map byteV) false
@[simp ↓ high] theorem oB_strip (r : List UInt8) : (oB r).strip = uB r := nrfl rfl
@[simp ↓ high] theorem uB_strip (r : List UInt8) : (uB r).strip = uB r := nrfl rfl
@[simp ↓ high] theorem oB_deep (r : List UInt8) : deepLocal (oB r) = false := nrfl rfl
@[simp ↓ high] theorem oB_notTup (r : List UInt8) : notTup (oB r) = some (oB r) := nrfl rfl
@[simp ↓ high] theorem oB_noPtr1 (k : Nat) (r : List UInt8) : noPtr1 k (oB r) = true := nrfl rfl
@[simp ↓ high] theorem oB_noPtr (k : Nat) (r : List UInt8) : noPtr k (oB r) = true := nrfl rfl
@[simp ↓ high] theorem oB_cvb (x : UInt8) (r : List UInt8) : rCvb [oB (x :: r)] = some (oB (x :: r)) := nrfl rfl
theorem app_oB (r b : List UInt8) (h : r.length + b.length ≤ 70368744177664) : rAppend 1 1 [oB r, uB b] = some (oB (r ++ b)) := by
  unfold oB uB rAppend
  simp only [List.length_map]
  rw [if_pos ⟨trivial, trivial, by omega, by omega⟩, List.map_append]
theorem apps_oB (r : List UInt8) (s : Tx) (h : r.length + s.length ≤ 70368744177664) : rAppends [oB r, .str s] = some (oB (r ++ s)) := by
  unfold oB rAppends
  simp only [List.length_map]
  rw [if_pos (by omega), List.map_append]
theorem app_1 (r : List UInt8) (a : Int) (h : r.length ≤ 70000000000000) : rAppend 1 1 [oB r, .list 1 [.int .u8 (IntKind.u8.wrap a)] false] = some (oB (r ++ beN a 1)) := by
  rw [← app_oB r (beN a 1) (by rw [beN_len]; omega), beN_one, uB, List.map_cons, byteV_of, List.map_nil]
theorem app_2 (r : List UInt8) (a b : Int) (h : r.length ≤ 70000000000000) : rAppend 1 1 [oB r, .list 1 [.int .u8 (IntKind.u8.wrap a), .int .u8 (IntKind.u8.wrap b)] false] = some (oB (r ++ beN a 1 ++ beN b 1)) := by
  rw [List.append_assoc, ← app_oB r (beN a 1 ++ beN b 1) (by rw [List.length_append, beN_len, beN_len]; omega), beN_one, beN_one, uB]
  simp only [List.cons_append, List.nil_append, List.map_cons, byteV_of, List.map_nil]
theorem app_4 (r : List UInt8) (a b c d : Int) (h : r.length ≤ 70000000000000) : rAppend 1 1 [oB r, .list 1 [.int .u8 (IntKind.u8.wrap a), .int .u8 (IntKind.u8.wrap b), .int .u8 (IntKind.u8.wrap c), .int .u8 (IntKind.u8.wrap d)] false] = some (oB (r ++ beN a 1 ++ beN b 1 ++ beN c 1 ++ beN d 1)) := by
  rw [List.append_assoc, List.append_assoc, List.append_assoc, ← app_oB r (beN a 1 ++ (beN b 1 ++ (beN c 1 ++ beN d 1))) (by simp only [List.length_append, beN_len]; omega), beN_one, beN_one, beN_one, beN_one, uB]
  simp only [List.cons_append, List.nil_append, List.map_cons, byteV_of, List.map_nil]

theorem u64_u8 (n : Int) (d : Int) (hd : d = 1 ∨ d = 256 ∨ d = 65536 ∨ d = 16777216) : IntKind.u8.wrap ((IntKind.u64.wrap n).fdiv d) = IntKind.u8.wrap (n.fdiv d) := by
  have e : IntKind.u64.wrap n = n % 18446744073709551616 := rfl
  rw [wrap_u8, wrap_u8, e]
  rcases hd with rfl | rfl | rfl | rfl <;> rw [Int.fdiv_eq_ediv_of_nonneg _ (by omega), Int.fdiv_eq_ediv_of_nonneg _ (by omega)] <;> omega

set_option maxHeartbeats 4000000 in
theorem ev_rU2 (n : Int) : ev tab prim 30 [.int .i64 n, .int .i64 2] [[], []] = some (oB (beN n 2), [[], []]) := by
  have w0 : IntKind.i64.wrap 0 = 0 := rfl
  have w1 : IntKind.i64.wrap 1 = 1 := rfl
  have w2 : IntKind.i64.wrap 2 = 2 := rfl
  have w8 : IntKind.i64.wrap 8 = 8 := rfl
  have wb : IntKind.u64.bits = 64 := rfl
  have f0 := u64_u8 n 1 (by omega)
  have f1 := u64_u8 n 256 (by omega)
  have e : oB (beN n 2) = .list 1 [.int .u8 (IntKind.u8.wrap (n.fdiv 256)), .int .u8 (IntKind.u8.wrap (n.fdiv 1))] true := by
    unfold oB; simp only [beN, List.map_cons, byteV_of, List.map_nil]; rfl
  simp only [Int.fdiv_one] at f0 e
  rw [ev_fn' tab prim (f := 30) rfl _ _ rfl, e]
  simp [L30_0, cv_loop', w0, w1, w2, w8, wb, idxOk, f0, f1]

set_option maxHeartbeats 4000000 in
theorem ev_rU4 (n : Int) : ev tab prim 30 [.int .i64 n, .int .i64 4] [[], []] = some (oB (beN n 4), [[], []]) := by
  have w0 : IntKind.i64.wrap 0 = 0 := rfl
  have w1 : IntKind.i64.wrap 1 = 1 := rfl
  have w2 : IntKind.i64.wrap 2 = 2 := rfl
  have w3 : IntKind.i64.wrap 3 = 3 := rfl
  have w4 : IntKind.i64.wrap 4 = 4 := rfl
  have w8 : IntKind.i64.wrap 8 = 8 := rfl
  have w16 : IntKind.i64.wrap 16 = 16 := rfl
  have w24 : IntKind.i64.wrap 24 = 24 := rfl
  have wb : IntKind.u64.bits = 64 := rfl
  have f0 := u64_u8 n 1 (by omega)
  have f1 := u64_u8 n 256 (by omega)
  have f2 := u64_u8 n 65536 (by omega)
  have f3 := u64_u8 n 16777216 (by omega)
  have e : oB (beN n 4) = .list 1 [.int .u8 (IntKind.u8.wrap (n.fdiv 16777216)), .int .u8 (IntKind.u8.wrap (n.fdiv 65536)), .int .u8 (IntKind.u8.wrap (n.fdiv 256)), .int .u8 (IntKind.u8.wrap (n.fdiv 1))] true := by
    unfold oB; simp only [beN, List.map_cons, byteV_of, List.map_nil]; rfl
  simp only [Int.fdiv_one] at f0 e
  rw [ev_fn' tab prim (f := 30) rfl _ _ rfl, e]
  simp [L30_0, cv_loop', w0, w1, w2, w3, w4, w8, w16, w24, wb, idxOk, f0, f1, f2, f3]

theorem ev_rText (s : Tx) (hs : s.length ≤ 65535) : ev tab prim 31 [.str s] [[], []] = some (oB (tB s), [[], []]) := by
  have h := ev_rU2 s.length
  have ha := apps_oB (beN s.length 2) s (by rw [beN_len]; omega)
  rw [show beN s.length 2 ++ s = tB s from rfl] at ha
  rw [ev_fn' tab prim (f := 31) rfl _ _ rfl]
  simp [h, ha, -rAppends]
  rfl

theorem ev_rplace (l : List Tx) (s : Tx) (hl : l.length ≤ maxLen) (o : Bool) : ev tab prim 32 [.list 1 (l.map V.str) o, .str s] [[], []] = some (oB (pl l s), [[], []]) := by
  have h1 := ev_in l s hl false
  have h := ev_rU2 (posI (posOf 0 l s))
  rw [ev_fn' tab prim (f := 32) rfl _ _ rfl]
  unfold pl
  simp [h1, h]
  rfl

theorem ev_ryes (b : Bool) : ev tab prim 33 [.bool b] [[], []] = some (.int .u8 (IntKind.u8.wrap (yesI b)), [[], []]) := by
  have w1 : IntKind.u8.wrap 1 = 1 := rfl
  have w0 : IntKind.u8.wrap 0 = 0 := rfl
  rw [ev_fn' tab prim (f := 33) rfl _ _ rfl]
  cases b <;> simp [yesI, w0, w1]

/-! A class, as the document writes it: its loops. -/
def rE (c : Cls) (l : List Tx) (row : List UInt8) (r : Env) : Env := (1, .cptr c.cells) :: (5, .list 1 (l.map V.str) false) :: (6, oB row) :: r

theorem reLoop0 (c : Cls) (l : List Tx) (row : List UInt8) (hl : l.length ≤ 500) (hx : ∀ s ∈ l, s.length ≤ 12000) (hr : row.length ≤ 1000) :
    cv tab prim (.loop L10_0) { env := rE c l row [(7, .int .i64 0)], mem := [[], [], []] } = some (.exit 0, { env := rE c l (row ++ l.flatMap tB) [], mem := [[], [], []] }) := by
  have h := loop_all (b := L10_0) (fun i => { env := rE c l (row ++ (l.take i).flatMap tB) [(7, .int .i64 i)], mem := [[], [], []] }) l.length (.exit 0, { env := rE c l (row ++ l.flatMap tB) [], mem := [[], [], []] }) (fun i hi => ?_) ?_ (by simp)
  · simpa using h
  · have a1 : (i : Int) < (l.length : Int) := by omega
    have hw := wrap_succ hi (by unfold maxLen; omega)
    have hx' : (l.map V.str)[i]? = some (.str l[i]) := by simp [hi]
    have hs := hx _ (List.getElem_mem hi)
    have hlen : ((l.take i).flatMap tB).length ≤ 12002 * 500 := by
      have := flatMap_len tB 12002 (l.take i) fun a ha => tB_len a (hx a (List.mem_of_mem_take ha))
      rw [List.length_take] at this
      omega
    rw [flatMap_take tB l i hi, ← List.append_assoc]
    have hr' : (row ++ (l.take i).flatMap tB).length ≤ 7000000 := by rw [List.length_append]; omega
    generalize row ++ (l.take i).flatMap tB = r at hr' ⊢
    generalize l[i] = s at *
    have hT := ev_rText s (by omega)
    have hA := app_oB r (tB s) (by have := tB_len s hs; omega)
    simp [L10_0, rE, a1, hw, idxOk, hx', hT, hA, -rAppend, -V.strip]
  · rw [List.take_length]; simp [L10_0, rE]

theorem reLoop1 (c : Cls) (hc : c.Wf) (ho : c.Ok) (l : List Tx) (row : List UInt8) (hl : l.length ≤ 500) (hr : row.length ≤ 8000000) :
    cv tab prim (.loop L10_1) { env := rE c l row [(8, .int .i64 0)], mem := [[], [], []] } = some (.exit 2, { env := rE c l (row ++ c.im.flatMap (pl l)) [], mem := [[], [], []] }) := by
  have h := loop_all (b := L10_1) (fun i => { env := rE c l (row ++ (c.im.take i).flatMap (pl l)) [(8, .int .i64 i)], mem := [[], [], []] }) c.im.length (.exit 2, { env := rE c l (row ++ c.im.flatMap (pl l)) [], mem := [[], [], []] }) (fun i hi => ?_) ?_ (by simp)
  · simpa using h
  · have a1 : (i : Int) < (c.im.length : Int) := by omega
    have hw := wrap_succ hi hc.im
    have hx' : (c.im.map V.str)[i]? = some (.str c.im[i]) := by simp [hi]
    have hlen : ((c.im.take i).flatMap (pl l)).length ≤ 2 * 30 := by
      have := flatMap_len (pl l) 2 (c.im.take i) fun a _ => by rw [pl_len]; omega
      rw [List.length_take] at this
      have := ho.im
      omega
    rw [flatMap_take (pl l) c.im i hi, ← List.append_assoc]
    have hr' : (row ++ (c.im.take i).flatMap (pl l)).length ≤ 8000060 := by rw [List.length_append]; omega
    generalize row ++ (c.im.take i).flatMap (pl l) = r at hr' ⊢
    generalize c.im[i] = s at *
    have hT := ev_rplace l s (by unfold maxLen; omega) false
    have hA := app_oB r (pl l s) (by rw [pl_len]; omega)
    simp [L10_1, rE, Cls.cells, a1, hw, idxOk, hx', hT, hA, -rAppend, -V.strip]
  · rw [List.take_length]; simp [L10_1, rE, Cls.cells, -V.strip]

theorem reLoop2 (c : Cls) (hc : c.Wf) (ho : c.Ok) (l : List Tx) (row : List UInt8) (hl : l.length ≤ 500) (hr : row.length ≤ 8000000) :
    cv tab prim (.loop L10_2) { env := rE c l row [(9, .int .i64 0)], mem := [[], [], []] } = some (.exit 4, { env := rE c l (row ++ c.fs.flatMap (fB l)) [], mem := [[], [], []] }) := by
  have h := loop_all (b := L10_2) (fun i => { env := rE c l (row ++ (c.fs.take i).flatMap (fB l)) [(9, .int .i64 i)], mem := [[], [], []] }) c.fs.length (.exit 4, { env := rE c l (row ++ c.fs.flatMap (fB l)) [], mem := [[], [], []] }) (fun i hi => ?_) ?_ (by simp)
  · simpa using h
  · have a1 : (i : Int) < (c.fs.length : Int) := by omega
    have hw := wrap_succ hi hc.fs
    have hx' : (c.fs.map Fld.v)[i]? = some (Fld.v c.fs[i]) := by simp [hi]
    have hlen : ((c.fs.take i).flatMap (fB l)).length ≤ 5 * 20 := by
      have := flatMap_len (fB l) 5 (c.fs.take i) fun a _ => by rw [fB_len]; omega
      rw [List.length_take] at this
      have := ho.fs
      omega
    rw [flatMap_take (fB l) c.fs i hi, ← List.append_assoc]
    have hr' : (row ++ (c.fs.take i).flatMap (fB l)).length ≤ 8000100 := by rw [List.length_append]; omega
    generalize row ++ (c.fs.take i).flatMap (fB l) = r at hr' ⊢
    generalize c.fs[i] = f at *
    unfold fB
    rw [← List.append_assoc, ← List.append_assoc]
    have t1 := ev_rplace l f.n (by unfold maxLen; omega) false
    have t2 := ev_rplace l f.d (by unfold maxLen; omega) false
    have t3 := ev_ryes f.s
    have p1 := app_oB r (pl l f.n) (by rw [pl_len]; omega)
    have n1 : (r ++ pl l f.n).length ≤ 8000102 := by rw [List.length_append, pl_len]; omega
    generalize r ++ pl l f.n = w1 at *
    have p2 := app_oB w1 (pl l f.d) (by rw [pl_len]; omega)
    have n2 : (w1 ++ pl l f.d).length ≤ 8000104 := by rw [List.length_append, pl_len]; omega
    generalize w1 ++ pl l f.d = w2 at *
    have p3 := app_1 w2 (yesI f.s) (by omega)
    generalize w2 ++ beN (yesI f.s) 1 = w3 at *
    simp [L10_2, rE, Cls.cells, a1, hw, idxOk, hx', Fld.v, t1, t2, t3, p1, p2, p3, -rAppend, -V.strip]
  · rw [List.take_length]; simp [L10_2, rE, Cls.cells, -V.strip]

def rM (c : Cls) (l : List Tx) (row : List UInt8) (j : Nat) (m : Mth) (r : Env) : Env := rE c l row ((11, .int .i64 j) :: (12, .cptr m.cells) :: r)

theorem texts_flat (l : List Tx) (x : Ins) : x.texts.flatMap (pl l) = (bif rowB x.o 3 then pl l x.c else []) ++ ((bif rowB x.o 4 then pl l x.n else []) ++ (bif rowB x.o 5 then pl l x.d else [])) := by
  unfold Ins.texts
  cases rowB x.o 3 <;> cases rowB x.o 4 <;> cases rowB x.o 5 <;> simp

theorem app_if (w : List UInt8) (b : Bool) (y : List UInt8) (h : w.length + y.length ≤ 70368744177664) : (bif b then rAppend 1 1 [oB w, uB y] else some (oB w)) = some (oB (w ++ (bif b then y else []))) := by
  cases b
  · simp
  · exact app_oB w y h
theorem len_if (w : List UInt8) (b : Bool) (y : List UInt8) : (w ++ (bif b then y else [])).length ≤ w.length + y.length := by
  cases b <;> simp

set_option maxHeartbeats 64000000 in
theorem reLoop3 (c : Cls) (l : List Tx) (j : Nat) (m : Mth) (hm : m.Wf) (ho : m.Ok) (row : List UInt8) (hl : l.length ≤ 500) (hr : row.length ≤ 9000000) :
    cv tab prim (.loop L10_3) { env := rM c l row j m [(13, .int .i64 0)], mem := [[], [], []] } = some (.exit 8, { env := rM c l (row ++ m.code.flatMap (iB l)) j m [], mem := [[], [], []] }) := by
  have h := loop_all (b := L10_3) (fun i => { env := rM c l (row ++ (m.code.take i).flatMap (iB l)) j m [(13, .int .i64 i)], mem := [[], [], []] }) m.code.length (.exit 8, { env := rM c l (row ++ m.code.flatMap (iB l)) j m [], mem := [[], [], []] }) (fun i hi => ?_) ?_ (by simp)
  · simpa using h
  · have a1 : (i : Int) < (m.code.length : Int) := by omega
    have hw := wrap_succ hi hm.code
    have hx' : (m.code.map Ins.v)[i]? = some (Ins.v m.code[i]) := by simp [hi]
    have hlen : ((m.code.take i).flatMap (iB l)).length ≤ 15 * 200 := by
      have := flatMap_len (iB l) 15 (m.code.take i) fun a _ => iB_len l a
      rw [List.length_take] at this
      have := ho.code
      omega
    rw [flatMap_take (iB l) m.code i hi, ← List.append_assoc]
    have hr' : (row ++ (m.code.take i).flatMap (iB l)).length ≤ 9003000 := by rw [List.length_append]; omega
    generalize row ++ (m.code.take i).flatMap (iB l) = r at hr' ⊢
    generalize m.code[i] = x at *
    have h40 := ev34 x.o
    rw [shapeOf_eq] at h40
    have t1 := ev_rU4 x.a
    have t2 := ev_rU4 x.b
    have t3 := ev_rplace l x.c (by unfold maxLen; omega) false
    have t4 := ev_rplace l x.n (by unfold maxLen; omega) false
    have t5 := ev_rplace l x.d (by unfold maxLen; omega) false
    unfold iB
    rw [texts_flat]
    simp only [← List.append_assoc]
    generalize rowB x.o 1 = r1 at *
    generalize rowB x.o 2 = r2 at *
    generalize rowB x.o 3 = r3 at *
    generalize rowB x.o 4 = r4 at *
    generalize rowB x.o 5 = r5 at *
    have F0 := app_1 r x.o (by omega)
    have n0 : (r ++ beN x.o 1).length ≤ 9003001 := by rw [List.length_append, beN_len]; omega
    generalize r ++ beN x.o 1 = w0 at *
    have b1 := beN_len x.a 4
    have b2 := beN_len x.b 4
    have b3 := pl_len l x.c
    have b4 := pl_len l x.n
    have b5 := pl_len l x.d
    have F1 := app_if w0 r1 (beN x.a 4) (by omega)
    have n1 := len_if w0 r1 (beN x.a 4)
    generalize w0 ++ (bif r1 then beN x.a 4 else []) = w1 at *
    have F2 := app_if w1 r2 (beN x.b 4) (by omega)
    have n2 := len_if w1 r2 (beN x.b 4)
    generalize w1 ++ (bif r2 then beN x.b 4 else []) = w2 at *
    have F3 := app_if w2 r3 (pl l x.c) (by omega)
    have n3 := len_if w2 r3 (pl l x.c)
    generalize w2 ++ (bif r3 then pl l x.c else []) = w3 at *
    have F4 := app_if w3 r4 (pl l x.n) (by omega)
    have n4 := len_if w3 r4 (pl l x.n)
    generalize w3 ++ (bif r4 then pl l x.n else []) = w4 at *
    have F5 := app_if w4 r5 (pl l x.d) (by omega)
    generalize w4 ++ (bif r5 then pl l x.d else []) = w5 at *
    cases r1 <;> cases r2 <;> cases r3 <;> cases r4 <;> cases r5 <;> simp only [cond_true, cond_false, Option.some.injEq] at F1 F2 F3 F4 F5 <;>
      simp [L10_3, rM, rE, Mth.cells, a1, hw, idxOk, hx', Ins.v, h40, t1, t2, t3, t4, t5, F0, F1, F2, F3, F4, F5, -rAppend, -V.strip]
  · rw [List.take_length]; simp [L10_3, rM, rE, Mth.cells, -V.strip]

theorem reLoop4 (c : Cls) (l : List Tx) (j : Nat) (m : Mth) (hm : m.Wf) (ho : m.Ok) (row : List UInt8) (hl : l.length ≤ 500) (hr : row.length ≤ 9100000) :
    cv tab prim (.loop L10_4) { env := rM c l row j m [(17, .int .i64 0)], mem := [[], [], []] } = some (.exit 10, { env := rE c l (row ++ m.hs.flatMap (hB l)) [(11, .int .i64 j)], mem := [[], [], []] }) := by
  have h := loop_all (b := L10_4) (fun i => { env := rM c l (row ++ (m.hs.take i).flatMap (hB l)) j m [(17, .int .i64 i)], mem := [[], [], []] }) m.hs.length (.exit 10, { env := rE c l (row ++ m.hs.flatMap (hB l)) [(11, .int .i64 j)], mem := [[], [], []] }) (fun i hi => ?_) ?_ (by simp)
  · simpa using h
  · have a1 : (i : Int) < (m.hs.length : Int) := by omega
    have hw := wrap_succ hi hm.hs
    have hx' : (m.hs.map Hnd.v)[i]? = some (Hnd.v m.hs[i]) := by simp [hi]
    have hlen : ((m.hs.take i).flatMap (hB l)).length ≤ 8 * 20 := by
      have := flatMap_len (hB l) 8 (m.hs.take i) fun a _ => by rw [hB_len]; omega
      rw [List.length_take] at this
      have := ho.hs
      omega
    rw [flatMap_take (hB l) m.hs i hi, ← List.append_assoc]
    have hr' : (row ++ (m.hs.take i).flatMap (hB l)).length ≤ 9100160 := by rw [List.length_append]; omega
    generalize row ++ (m.hs.take i).flatMap (hB l) = r at hr' ⊢
    generalize m.hs[i] = x at *
    unfold hB
    simp only [← List.append_assoc]
    have t1 := ev_rU2 x.f
    have t2 := ev_rU2 x.t
    have t3 := ev_rU2 x.a
    have t4 := ev_rplace l x.c (by unfold maxLen; omega) false
    have p1 := app_oB r (beN x.f 2) (by rw [beN_len]; omega)
    have n1 : (r ++ beN x.f 2).length ≤ 9100162 := by rw [List.length_append, beN_len]; omega
    generalize r ++ beN x.f 2 = w1 at *
    have p2 := app_oB w1 (beN x.t 2) (by rw [beN_len]; omega)
    have n2 : (w1 ++ beN x.t 2).length ≤ 9100164 := by rw [List.length_append, beN_len]; omega
    generalize w1 ++ beN x.t 2 = w2 at *
    have p3 := app_oB w2 (beN x.a 2) (by rw [beN_len]; omega)
    have n3 : (w2 ++ beN x.a 2).length ≤ 9100166 := by rw [List.length_append, beN_len]; omega
    generalize w2 ++ beN x.a 2 = w3 at *
    have p4 := app_oB w3 (pl l x.c) (by rw [pl_len]; omega)
    generalize w3 ++ pl l x.c = w4 at *
    simp [L10_4, rM, rE, Mth.cells, a1, hw, idxOk, hx', Hnd.v, t1, t2, t3, t4, p1, p2, p3, p4, -rAppend, -V.strip]
  · rw [List.take_length]; simp [L10_4, rM, rE, Mth.cells, -V.strip]

end Go.Proofs.Ytgmlanhhjmhmmaa.Ev
