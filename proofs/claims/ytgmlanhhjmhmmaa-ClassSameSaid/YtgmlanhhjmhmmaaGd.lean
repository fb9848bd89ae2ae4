/- The law of classes that are the same. -/
import Derived.Test.YtgmlanhhjmhmmaaGc
namespace Go.Proofs.Ytgmlanhhjmhmmaa.Ev
open Go

def Cls.same (c k : Cls) : Bool := c.n == k.n && (c.s == k.s && (c.i == k.i && (c.a == k.a && (eqF (fun x y => x == y) c.im k.im && (eqF Fld.eq c.fs k.fs && eqF Mth.same c.ms k.ms)))))
theorem Cls.same_refl (c : Cls) : c.same c = true := by simp [Cls.same, eqF_refl (f := fun x y => x == y) fun (x : List UInt8) _ => beq_self_eq_true x, eqF_refl fun x _ => Fld.eq_refl x, eqF_refl fun x _ => Mth.same_refl x]

set_option maxHeartbeats 4000000 in
theorem ev_ClassSame (c k : Cls) (hc : c.Wf) (M : Mem) : ev tab prim 17 [c.v, k.v] M = some (.bool (c.same k), M) := by
  have h0 := ev_EqStrs c.im k.im hc.im [[], []]
  have h1 := ev_EqFlds c.fs k.fs hc.fs [[], []]
  have h2 := ev_EqMths c.ms k.ms hc.ms (fun x hx y _ M => ev_sameMethod x y (hc.mss x hx) M) ([] :: M)
  unfold Cls.v Cls.cells Cls.same
  rw [ev_fn' tab prim (f := 17) rfl _ _ rfl]
  generalize eqF (fun x y => x == y) c.im k.im = e0 at *
  generalize eqF Fld.eq c.fs k.fs = e1 at *
  generalize eqF Mth.same c.ms k.ms = e2 at *
  cases b1 : c.n == k.n
  · simp [b1]
  cases b2 : c.s == k.s
  · simp [b1, b2]
  cases b3 : c.i == k.i
  · simp [b1, b2, b3]
  cases b4 : c.a == k.a
  · simp [b1, b2, b3, b4]
  cases e0
  · simp [b1, b2, b3, b4, h0]
  cases e1
  · simp [b1, b2, b3, b4, h0, h1]
  simp [b1, b2, b3, b4, h0, h1, h2]

theorem ev_RefTexts (l k : List (List UInt8)) (hl : l.length ≤ maxLen) : ev tab prim 48 [.list 1 (l.map V.str) false, .list 1 (k.map V.str) false] [[], []] = some (.bool (eqF (fun x y => x == y) l k), [[], []]) := by
  rw [ev_fn' tab prim (f := 48) rfl _ _ rfl]
  by_cases h : l.length = k.length
  · have e : ((l.length : Int) != (k.length : Int)) = false := by simp [h]
    have hL := loop_eq (fun x y => x == y) l k h (b := L48_0) (fun i => { env := [(0, .list 1 (l.map V.str) false), (1, .list 1 (k.map V.str) false), (5, .int .i64 i)], mem := [[], [], []] }) (.exit 0, { env := [], mem := [[], [], []] }) (.ret, { env := [(4, .bool false)], mem := [[], [], []] })
      (fun i hi hi' hh => by
        have a1 : (i : Int) < (l.length : Int) := by omega
        have a2 : (i : Int) < (k.length : Int) := by omega
        have hw := wrap_succ hi hl
        have hx : (l.map V.str)[i]? = some (V.str l[i]) := by simp [hi]
        have hy : (k.map V.str)[i]? = some (V.str k[i]) := by simp [hi']
        replace hh : (l[i] == k[i]) = true := hh
        simp [L48_0, a1, a2, hw, idxOk, hx, hy, hh])
      (fun i hi hi' hh => by
        have a1 : (i : Int) < (l.length : Int) := by omega
        have a2 : (i : Int) < (k.length : Int) := by omega
        have hx : (l.map V.str)[i]? = some (V.str l[i]) := by simp [hi]
        have hy : (k.map V.str)[i]? = some (V.str k[i]) := by simp [hi']
        replace hh : (l[i] == k[i]) = false := hh
        simp [L48_0, a1, a2, idxOk, hx, hy, hh])
      (by simp [L48_0]) (by simp) (by simp)
    simp only [Int.natCast_zero] at hL
    cases hq : eqF (fun x y => x == y) l k <;> rw [hq] at hL <;> simp at hL <;> simp [e, hL]
  · have e : ((l.length : Int) != (k.length : Int)) = true := by simp; omega
    have : eqF (fun x y => x == y) l k = false := by
      cases hq : eqF (fun x y => x == y) l k
      · rfl
      · exact absurd (eqF_len hq) h
    simp [e, this]

def rSt (c k : Cls) (r : Env) : St := { env := (2, .cptr c.cells) :: (3, .cptr k.cells) :: r, mem := [[], [], []] }
def rNo : AExit × St := (.ret, { env := [(4, .bool false)], mem := [[], [], []] })

theorem rLoop0 (c k : Cls) (hc : c.Wf) (h : c.fs.length = k.fs.length) : cv tab prim (.loop L18_0) (rSt c k [(5, .int .i64 0)]) = some (if eqF Fld.eq c.fs k.fs = true then (.exit 0, rSt c k []) else rNo) := by
  refine loop_eq Fld.eq c.fs k.fs h (fun i => rSt c k [(5, .int .i64 i)]) _ _ (fun i hi hi' hh => ?_) (fun i hi hi' hh => ?_) ?_ (by simp) (by simp [rNo])
  · have a1 : (i : Int) < (c.fs.length : Int) := by omega
    have a2 : (i : Int) < (k.fs.length : Int) := by omega
    have hw := wrap_succ hi hc.fs
    have hx : (c.fs.map Fld.v)[i]? = some (Fld.v c.fs[i]) := by simp [hi]
    have hy : (k.fs.map Fld.v)[i]? = some (Fld.v k.fs[i]) := by simp [hi']
    simp [-rSeq, rSt, Cls.cells, L18_0, a1, a2, hw, idxOk, hx, hy, Fld.v, rseqFld, hh]
  · have a1 : (i : Int) < (c.fs.length : Int) := by omega
    have a2 : (i : Int) < (k.fs.length : Int) := by omega
    have hx : (c.fs.map Fld.v)[i]? = some (Fld.v c.fs[i]) := by simp [hi]
    have hy : (k.fs.map Fld.v)[i]? = some (Fld.v k.fs[i]) := by simp [hi']
    simp [-rSeq, rSt, rNo, Cls.cells, L18_0, a1, a2, idxOk, hx, hy, Fld.v, rseqFld, hh]
  · simp [rSt, Cls.cells, L18_0]

def mmSt (c k : Cls) (i : Nat) (m n : Mth) (r : Env) : St := rSt c k ((6, .int .i64 i) :: (7, .cptr m.cells) :: (8, .cptr n.cells) :: r)

theorem ev_Pure (x : Ins) : ev tab prim 49 [x.v] [[], []] = some (.agg [.int .i64 x.o, .int .i64 (mI (rowB x.o 1) x.a), .int .i64 (mI (rowB x.o 2) x.b), .str (mS (rowB x.o 3) x.c), .str (mS (rowB x.o 4) x.n), .str (mS (rowB x.o 5) x.d)], [[], []]) := ev49 _ _ _ _ _ _

theorem rseqIns (o a b : Int) (c n d : List UInt8) (o' a' b' : Int) (c' n' d' : List UInt8) :
    rSeq [0, 0, 0, 1, 1, 1] true [.agg [.int .i64 o, .int .i64 a, .int .i64 b, .str c, .str n, .str d], .agg [.int .i64 o', .int .i64 a', .int .i64 b', .str c', .str n', .str d']] =
      some (.bool (!(eq6 o a b c n d o' a' b' c' n' d'))) := by
  unfold eq6
  cases h1 : o == o' <;> cases h2 : a == a' <;> cases h3 : b == b' <;> cases h4 : c == c' <;> cases h5 : n == n' <;> cases h6 : d == d' <;> simp [h1, h2, h3, h4, h5, h6]

theorem rLoop1 (c k : Cls) (j : Nat) (m n : Mth) (hm : m.Wf) (h : m.code.length = n.code.length) : cv tab prim (.loop L18_1) (mmSt c k j m n [(9, .int .i64 0)]) = some (if eqF Ins.same m.code n.code = true then (.exit 4, mmSt c k j m n []) else rNo) := by
  refine loop_eq Ins.same m.code n.code h (fun i => mmSt c k j m n [(9, .int .i64 i)]) _ _ (fun i hi hi' hh => ?_) (fun i hi hi' hh => ?_) ?_ (by simp) (by simp [rNo])
  · have a1 : (i : Int) < (m.code.length : Int) := by omega
    have a2 : (i : Int) < (n.code.length : Int) := by omega
    have hw := wrap_succ hi hm.code
    have hx : (m.code.map Ins.v)[i]? = some (Ins.v m.code[i]) := by simp [hi]
    have hy : (n.code.map Ins.v)[i]? = some (Ins.v n.code[i]) := by simp [hi']
    have p1 := ev_Pure m.code[i]
    have p2 := ev_Pure n.code[i]
    unfold Ins.v at p1 p2
    unfold Ins.same Ev.same at hh
    simp [-rSeq, mmSt, rSt, Mth.cells, L18_1, a1, a2, hw, idxOk, hx, hy, Ins.v, p1, p2, rseqIns, hh]
  · have a1 : (i : Int) < (m.code.length : Int) := by omega
    have a2 : (i : Int) < (n.code.length : Int) := by omega
    have hx : (m.code.map Ins.v)[i]? = some (Ins.v m.code[i]) := by simp [hi]
    have hy : (n.code.map Ins.v)[i]? = some (Ins.v n.code[i]) := by simp [hi']
    have p1 := ev_Pure m.code[i]
    have p2 := ev_Pure n.code[i]
    unfold Ins.v at p1 p2
    unfold Ins.same Ev.same at hh
    simp [-rSeq, mmSt, rSt, rNo, Mth.cells, L18_1, a1, a2, idxOk, hx, hy, Ins.v, p1, p2, rseqIns, hh]
  · simp [mmSt, rSt, Mth.cells, L18_1]

theorem rLoop2 (c k : Cls) (j : Nat) (m n : Mth) (hm : m.Wf) (h : m.hs.length = n.hs.length) : cv tab prim (.loop L18_2) (mmSt c k j m n [(10, .int .i64 0)]) = some (if eqF Hnd.eq m.hs n.hs = true then (.exit 6, rSt c k [(6, .int .i64 j)]) else rNo) := by
  refine loop_eq Hnd.eq m.hs n.hs h (fun i => mmSt c k j m n [(10, .int .i64 i)]) _ _ (fun i hi hi' hh => ?_) (fun i hi hi' hh => ?_) ?_ (by simp) (by simp [rNo])
  · have a1 : (i : Int) < (m.hs.length : Int) := by omega
    have a2 : (i : Int) < (n.hs.length : Int) := by omega
    have hw := wrap_succ hi hm.hs
    have hx : (m.hs.map Hnd.v)[i]? = some (Hnd.v m.hs[i]) := by simp [hi]
    have hy : (n.hs.map Hnd.v)[i]? = some (Hnd.v n.hs[i]) := by simp [hi']
    simp [-rSeq, mmSt, rSt, Mth.cells, L18_2, a1, a2, hw, idxOk, hx, hy, Hnd.v, rseqHnd, hh]
  · have a1 : (i : Int) < (m.hs.length : Int) := by omega
    have a2 : (i : Int) < (n.hs.length : Int) := by omega
    have hx : (m.hs.map Hnd.v)[i]? = some (Hnd.v m.hs[i]) := by simp [hi]
    have hy : (n.hs.map Hnd.v)[i]? = some (Hnd.v n.hs[i]) := by simp [hi']
    simp [-rSeq, mmSt, rSt, rNo, Mth.cells, L18_2, a1, a2, idxOk, hx, hy, Hnd.v, rseqHnd, hh]
  · simp [mmSt, rSt, Mth.cells, L18_2]

set_option maxHeartbeats 16000000 in
theorem rStep (c k : Cls) (i : Nat) (hc : c.Wf) (hi : i < c.ms.length) (hi' : i < k.ms.length) :
    cv tab prim L18_3 (rSt c k [(6, .int .i64 i)]) = some (bif c.ms[i].same k.ms[i] then (.normal, rSt c k [(6, .int .i64 (i + 1 : Nat))]) else rNo) := by
  have a1 : (i : Int) < (c.ms.length : Int) := by omega
  have a2 : (i : Int) < (k.ms.length : Int) := by omega
  have hw := wrap_succ hi hc.ms
  have hx : (c.ms.map Mth.v)[i]? = some (Mth.v c.ms[i]) := by simp [hi]
  have hy : (k.ms.map Mth.v)[i]? = some (Mth.v k.ms[i]) := by simp [hi']
  have hm := hc.mss _ (List.getElem_mem hi)
  generalize c.ms[i] = m at hx hm ⊢
  generalize k.ms[i] = n at hy ⊢
  have l1 := rLoop1 c k i m n hm
  have l2 := rLoop2 c k i m n hm
  simp only [mmSt, rSt, Cls.cells, Mth.cells, rNo] at l1 l2
  simp only [rSt, rNo, Cls.cells, Mth.same]
  cases b1 : m.n == n.n
  · simp [L18_3, a1, a2, idxOk, hx, hy, Mth.v, Mth.cells, b1]
  cases b2 : m.d == n.d
  · simp [L18_3, a1, a2, idxOk, hx, hy, Mth.v, Mth.cells, b1, b2]
  cases b3 : m.s == n.s
  · simp [L18_3, a1, a2, idxOk, hx, hy, Mth.v, Mth.cells, b1, b2, b3]
  cases b4 : m.a == n.a
  · simp [L18_3, a1, a2, idxOk, hx, hy, Mth.v, Mth.cells, b1, b2, b3, b4]
  cases b5 : m.st == n.st
  · have n5 : (m.st != n.st) = true := by simp [bne, b5]
    simp [L18_3, a1, a2, idxOk, hx, hy, Mth.v, Mth.cells, b1, b2, b3, b4, b5, n5]
  have n5 : (m.st != n.st) = false := by simp [bne, b5]
  cases b6 : m.lo == n.lo
  · have n6 : (m.lo != n.lo) = true := by simp [bne, b6]
    simp [L18_3, a1, a2, idxOk, hx, hy, Mth.v, Mth.cells, b1, b2, b3, b4, b5, n5, b6, n6]
  have n6 : (m.lo != n.lo) = false := by simp [bne, b6]
  by_cases h7 : m.code.length = n.code.length
  · have n7 : ((m.code.length : Int) != (n.code.length : Int)) = false := by simp [h7]
    by_cases h8 : m.hs.length = n.hs.length
    · have n8 : ((m.hs.length : Int) != (n.hs.length : Int)) = false := by simp [h8]
      have l1 := l1 h7
      have l2 := l2 h8
      cases e1 : eqF Ins.same m.code n.code
      · simp only [e1, Bool.false_eq_true, if_false] at l1
        simp [L18_3, a1, a2, idxOk, hx, hy, Mth.v, Mth.cells, b1, b2, b3, b4, b5, n5, b6, n6, n7, n8, l1]
      simp only [e1, if_true] at l1
      cases e2 : eqF Hnd.eq m.hs n.hs
      · simp only [e2, Bool.false_eq_true, if_false] at l2
        simp [L18_3, a1, a2, idxOk, hx, hy, Mth.v, Mth.cells, b1, b2, b3, b4, b5, n5, b6, n6, n7, n8, l1, l2]
      · simp only [e2, if_true] at l2
        simp [L18_3, a1, a2, hw, idxOk, hx, hy, Mth.v, Mth.cells, b1, b2, b3, b4, b5, n5, b6, n6, n7, n8, l1, l2]
    · have n8 : ((m.hs.length : Int) != (n.hs.length : Int)) = true := by simp; omega
      have e2 : eqF Hnd.eq m.hs n.hs = false := by
        cases hq : eqF Hnd.eq m.hs n.hs
        · rfl
        · exact absurd (eqF_len hq) h8
      simp [L18_3, a1, a2, idxOk, hx, hy, Mth.v, Mth.cells, b1, b2, b3, b4, b5, n5, b6, n6, n7, n8, e2]
  · have n7 : ((m.code.length : Int) != (n.code.length : Int)) = true := by simp; omega
    have e1 : eqF Ins.same m.code n.code = false := by
      cases hq : eqF Ins.same m.code n.code
      · rfl
      · exact absurd (eqF_len hq) h7
    simp [L18_3, a1, a2, idxOk, hx, hy, Mth.v, Mth.cells, b1, b2, b3, b4, b5, n5, b6, n6, n7, e1]

theorem rLoop3 (c k : Cls) (hc : c.Wf) (h : c.ms.length = k.ms.length) : cv tab prim (.loop L18_3) (rSt c k [(6, .int .i64 0)]) = some (if eqF Mth.same c.ms k.ms = true then (.exit 2, { env := [], mem := [[], [], []] }) else rNo) := by
  refine loop_eq Mth.same c.ms k.ms h (fun i => rSt c k [(6, .int .i64 i)]) _ _ (fun i hi hi' hh => ?_) (fun i hi hi' hh => ?_) ?_ (by simp) (by simp [rNo])
  · rw [rStep c k i hc hi hi', hh]; rfl
  · rw [rStep c k i hc hi hi', hh]; rfl
  · simp [rSt, Cls.cells, L18_3]

set_option maxHeartbeats 16000000 in
theorem ev_RefSame (c k : Cls) (hc : c.Wf) : ev tab prim 18 [c.v, k.v] [[], []] = some (.bool (c.same k), [[], []]) := by
  have h0 := ev_RefTexts c.im k.im hc.im
  have l0 := rLoop0 c k hc
  have l3 := rLoop3 c k hc
  simp only [rSt, Cls.cells, rNo] at l0 l3
  unfold Cls.v Cls.cells Cls.same
  rw [ev_fn' tab prim (f := 18) rfl _ _ rfl]
  cases b1 : c.n == k.n
  · simp [b1]
  cases b2 : c.s == k.s
  · simp [b1, b2]
  cases b3 : c.i == k.i
  · simp [b1, b2, b3]
  cases b4 : c.a == k.a
  · simp [b1, b2, b3, b4]
  cases e0 : eqF (fun x y => x == y) c.im k.im
  · rw [e0] at h0; simp [b1, b2, b3, b4, h0]
  rw [e0] at h0
  by_cases h7 : c.fs.length = k.fs.length
  · have n7 : ((c.fs.length : Int) != (k.fs.length : Int)) = false := by simp [h7]
    by_cases h8 : c.ms.length = k.ms.length
    · have n8 : ((c.ms.length : Int) != (k.ms.length : Int)) = false := by simp [h8]
      have l0 := l0 h7
      have l3 := l3 h8
      cases e1 : eqF Fld.eq c.fs k.fs
      · simp only [e1, Bool.false_eq_true, if_false] at l0
        simp [b1, b2, b3, b4, h0, n7, n8, l0]
      simp only [e1, if_true] at l0
      cases e2 : eqF Mth.same c.ms k.ms
      · simp only [e2, Bool.false_eq_true, if_false] at l3
        simp [b1, b2, b3, b4, h0, n7, n8, l0, l3]
      · simp only [e2, if_true] at l3
        simp [b1, b2, b3, b4, h0, n7, n8, l0, l3]
    · have n8 : ((c.ms.length : Int) != (k.ms.length : Int)) = true := by simp; omega
      have e2 : eqF Mth.same c.ms k.ms = false := by
        cases hq : eqF Mth.same c.ms k.ms
        · rfl
        · exact absurd (eqF_len hq) h8
      simp [b1, b2, b3, b4, h0, n7, n8, e2]
  · have n7 : ((c.fs.length : Int) != (k.fs.length : Int)) = true := by simp; omega
    have e1 : eqF Fld.eq c.fs k.fs = false := by
      cases hq : eqF Fld.eq c.fs k.fs
      · rfl
      · exact absurd (eqF_len hq) h7
    simp [b1, b2, b3, b4, h0, n7, e1]

set_option maxRecDepth 100000 in
theorem ev_awake5 : ev tab prim 8 [] [[], []] = some (.bool true, [[], []]) := ev_of_fuel 200 (by kernel_rfl)

theorem ev_lawSame (a b : Cls) (ha : a.Wf) (hb : b.Wf) : ev tab prim 4 [a.v, b.v] [[], []] = some (.bool true, [[], []]) := by
  have h1 := ev_ClassSize a ha
  have h2 := ev_ClassSize b hb
  have hS := ev_Sum a.size [b.size] (by simp) (a.size3_pos _) (by have : 0 ≤ b.size := b.size3_pos b.ms.length; simpa using this) false
  have h3 := ev_ClassSame a b ha [[], []]
  have h4 := ev_ClassSame a a ha [[], []]
  have h5 := ev_RefSame a b ha
  rw [Cls.same_refl] at h4
  simp only [List.map_cons, List.map_nil] at hS
  unfold Cls.v Cls.cells at *
  rw [ev_fn' tab prim (f := 4) rfl _ _ rfl]
  by_cases hb : 12000 < sumF a.size [b.size]
  · simp [h1, h2, hS, hb, ev_awake5]
  · simp [h1, h2, hS, hb, ev_awake5, h3, h4, h5]

end Go.Proofs.Ytgmlanhhjmhmmaa.Ev
