/- The law of classes that are the same. -/
import Derived.Test.YtgmlanhhjmhmmaaGreatGb
namespace Go.Proofs.YtgmlanhhjmhmmaaGreat.Ev
open Go

/-! Classes that are the same. -/
def eqF {α β : Type} (f : α → β → Bool) : List α → List β → Bool
  | [], [] => true
  | x :: r, y :: s => f x y && eqF f r s
  | _, _ => false

theorem eqF_len {α β : Type} {f : α → β → Bool} : ∀ {l : List α} {k : List β}, eqF f l k = true → l.length = k.length
  | [], [], _ => rfl
  | _ :: r, _ :: s, h => by simp only [eqF, Bool.and_eq_true] at h; simp [eqF_len h.2]
theorem eqF_iff {α β : Type} (f : α → β → Bool) : ∀ (l : List α) (k : List β), eqF f l k = true ↔ l.length = k.length ∧ ∀ (i : Nat) (h : i < l.length) (h' : i < k.length), f l[i] k[i] = true
  | [], [] => by simp [eqF]
  | [], _ :: _ => by simp [eqF]
  | _ :: _, [] => by simp [eqF]
  | x :: r, y :: s => by
    simp only [eqF, Bool.and_eq_true, eqF_iff f r s, List.length_cons, Nat.add_right_cancel_iff]
    constructor
    · rintro ⟨h1, h2, h3⟩
      refine ⟨h2, fun i hi hi' => ?_⟩
      cases i with
      | zero => exact h1
      | succ i => exact h3 i (by omega) (by omega)
    · rintro ⟨h2, h3⟩
      exact ⟨h3 0 (by omega) (by omega), h2, fun i hi hi' => h3 (i + 1) (by omega) (by omega)⟩
theorem eqF_refl {α : Type} {f : α → α → Bool} {l : List α} (h : ∀ x ∈ l, f x x = true) : eqF f l l = true :=
  (eqF_iff f l l).2 ⟨rfl, fun _ hi _ => h _ (List.getElem_mem hi)⟩
theorem eqF_congr {α β : Type} {f g : α → β → Bool} (h : ∀ x y, f x y = g x y) : ∀ (l : List α) (k : List β), eqF f l k = eqF g l k
  | [], [] => rfl
  | [], _ :: _ => rfl
  | _ :: _, [] => rfl
  | x :: r, y :: s => by simp only [eqF, h, eqF_congr h r s]

/-- A loop that goes through two rows as long as each other. -/
theorem loop_eq {α β : Type} (f : α → β → Bool) (l : List α) (k : List β) (hl : l.length = k.length) {b : ACode} (st : Nat → St) (out bad : AExit × St)
    (h1 : ∀ i (h : i < l.length) (h' : i < k.length), f l[i] k[i] = true → cv tab prim b (st i) = some (.normal, st (i + 1)))
    (h2 : ∀ i (h : i < l.length) (h' : i < k.length), f l[i] k[i] = false → cv tab prim b (st i) = some bad)
    (h3 : cv tab prim b (st l.length) = some out) (ho : out.1 ≠ .normal) (hb : bad.1 ≠ .normal) :
    cv tab prim (.loop b) (st 0) = some (if eqF f l k = true then out else bad) := by
  have hp : ∀ (i : Nat) (h : i < l.length) (h' : i < k.length), (if h : i < l.length ∧ i < k.length then f l[i] k[i] else true) = f l[i] k[i] := fun i h h' => dif_pos ⟨h, h'⟩
  rw [loop_find st l.length (fun i => if h : i < l.length ∧ i < k.length then f l[i] k[i] else true) out bad (fun i hi h => ?_) (fun i hi h => ?_) h3 ho hb]
  · refine congrArg some ?_
    by_cases h : eqF f l k = true
    · rw [if_pos h, if_pos]
      intro i hi
      rw [hp i hi (by omega)]
      exact ((eqF_iff f l k).1 h).2 i hi (by omega)
    · rw [if_neg h, if_neg]
      intro hq
      refine h ((eqF_iff f l k).2 ⟨hl, fun i hi hi' => ?_⟩)
      have := hq i hi
      rwa [hp i hi hi'] at this
  · rw [hp i hi (by omega)] at h; exact h1 i hi (by omega) h
  · rw [hp i hi (by omega)] at h; exact h2 i hi (by omega) h

def Ins.same (x y : Ins) : Bool := Ev.same x.o x.a x.b x.c x.n x.d y.o y.a y.b y.c y.n y.d
theorem Ins.same_refl (x : Ins) : x.same x = true := eq6_refl _ _ _ _ _ _
theorem ev_Same (x y : Ins) (M : Mem) : ev tab prim 73 [x.v, y.v] M = some (.bool (x.same y), M) := by
  unfold Ins.v
  rw [ev_fn' tab prim (f := 73) rfl _ _ rfl]
  simp [-rSeq, rseq6, ev94, Ev.same, Ins.same]

def Fld.eq (x y : Fld) : Bool := x.n == y.n && (x.d == y.d && x.s == y.s)
def Hnd.eq (x y : Hnd) : Bool := x.f == y.f && (x.t == y.t && (x.a == y.a && x.c == y.c))
theorem rseqFld (x y : Fld) (neg : Bool) : rSeq [1, 1, 2] neg [.agg [.str x.n, .str x.d, .bool x.s], .agg [.str y.n, .str y.d, .bool y.s]] = some (.bool (Fld.eq x y != neg)) := by
  unfold Fld.eq
  cases h1 : x.n == y.n <;> cases h2 : x.d == y.d <;> cases x.s <;> cases y.s <;> cases neg <;> simp [h1, h2]
theorem rseqHnd (x y : Hnd) (neg : Bool) : rSeq [0, 0, 0, 1] neg [.agg [.int .i64 x.f, .int .i64 x.t, .int .i64 x.a, .str x.c], .agg [.int .i64 y.f, .int .i64 y.t, .int .i64 y.a, .str y.c]] = some (.bool (Hnd.eq x y != neg)) := by
  unfold Hnd.eq
  cases h1 : x.f == y.f <;> cases h2 : x.t == y.t <;> cases h3 : x.a == y.a <;> cases h4 : x.c == y.c <;> cases neg <;> simp [h1, h2, h3, h4]
theorem Fld.eq_refl (x : Fld) : x.eq x = true := by simp [Fld.eq]
theorem Hnd.eq_refl (x : Hnd) : x.eq x = true := by simp [Hnd.eq]

theorem ev_EqStrs (l k : List (List UInt8)) (hl : l.length ≤ maxLen) (M : Mem) : ev tab prim 37 [.list 1 (l.map V.str) false, .list 1 (k.map V.str) false] M = some (.bool (eqF (fun x y => x == y) l k), M) := by
  rw [ev_fn' tab prim (f := 37) rfl _ _ rfl]
  by_cases h : l.length = k.length
  · have e : ((l.length : Int) != (k.length : Int)) = false := by simp [h]
    have hL := loop_eq (fun x y => x == y) l k h (b := L37_0) (fun i => { env := [(0, .list 1 (l.map V.str) false), (1, .list 1 (k.map V.str) false), (12, .int .i64 l.length), (13, .int .i64 i)], mem := [] :: M }) (.exit 0, { env := [], mem := [] :: M }) (.ret, { env := [(4, .bool false)], mem := [] :: M })
      (fun i hi hi' hh => by
        have a1 : (i : Int) < (l.length : Int) := by omega
        have a2 : (i : Int) < (k.length : Int) := by omega
        have hw := wrap_succ hi hl
        have hx : (l.map V.str)[i]? = some (V.str l[i]) := by simp [hi]
        have hy : (k.map V.str)[i]? = some (V.str k[i]) := by simp [hi']
        replace hh : (l[i] == k[i]) = true := hh
        simp [L37_0, a1, a2, hw, idxOk, hx, hy, hh])
      (fun i hi hi' hh => by
        have a1 : (i : Int) < (l.length : Int) := by omega
        have a2 : (i : Int) < (k.length : Int) := by omega
        have hx : (l.map V.str)[i]? = some (V.str l[i]) := by simp [hi]
        have hy : (k.map V.str)[i]? = some (V.str k[i]) := by simp [hi']
        replace hh : (l[i] == k[i]) = false := hh
        simp [L37_0, a1, a2, idxOk, hx, hy, hh])
      (by simp [L37_0]) (by simp) (by simp)
    simp only [Int.natCast_zero] at hL
    cases hq : eqF (fun x y => x == y) l k <;> rw [hq] at hL <;> simp at hL <;> simp [e, hL]
  · have e : ((l.length : Int) != (k.length : Int)) = true := by simp; omega
    have : eqF (fun x y => x == y) l k = false := by
      cases hq : eqF (fun x y => x == y) l k
      · rfl
      · exact absurd (eqF_len hq) h
    simp [e, this]

theorem ev_EqFlds (l k : List (Fld)) (hl : l.length ≤ maxLen) (M : Mem) : ev tab prim 38 [.list 3 (l.map Fld.v) false, .list 3 (k.map Fld.v) false] M = some (.bool (eqF Fld.eq l k), M) := by
  rw [ev_fn' tab prim (f := 38) rfl _ _ rfl]
  by_cases h : l.length = k.length
  · have e : ((l.length : Int) != (k.length : Int)) = false := by simp [h]
    have hL := loop_eq Fld.eq l k h (b := L38_0) (fun i => { env := [(0, .list 3 (l.map Fld.v) false), (1, .list 3 (k.map Fld.v) false), (12, .int .i64 l.length), (13, .int .i64 i)], mem := [] :: M }) (.exit 0, { env := [], mem := [] :: M }) (.ret, { env := [(4, .bool false)], mem := [] :: M })
      (fun i hi hi' hh => by
        have a1 : (i : Int) < (l.length : Int) := by omega
        have a2 : (i : Int) < (k.length : Int) := by omega
        have hw := wrap_succ hi hl
        have hx : (l.map Fld.v)[i]? = some (Fld.v l[i]) := by simp [hi]
        have hy : (k.map Fld.v)[i]? = some (Fld.v k[i]) := by simp [hi']
        skip
        simp [-rSeq, L38_0, a1, a2, hw, idxOk, hx, hy, hh, Fld.v, rseqFld])
      (fun i hi hi' hh => by
        have a1 : (i : Int) < (l.length : Int) := by omega
        have a2 : (i : Int) < (k.length : Int) := by omega
        have hx : (l.map Fld.v)[i]? = some (Fld.v l[i]) := by simp [hi]
        have hy : (k.map Fld.v)[i]? = some (Fld.v k[i]) := by simp [hi']
        skip
        simp [-rSeq, L38_0, a1, a2, idxOk, hx, hy, hh, Fld.v, rseqFld])
      (by simp [L38_0]) (by simp) (by simp)
    simp only [Int.natCast_zero] at hL
    cases hq : eqF Fld.eq l k <;> rw [hq] at hL <;> simp at hL <;> simp [e, hL]
  · have e : ((l.length : Int) != (k.length : Int)) = true := by simp; omega
    have : eqF Fld.eq l k = false := by
      cases hq : eqF Fld.eq l k
      · rfl
      · exact absurd (eqF_len hq) h
    simp [e, this]

theorem ev_EqHnds (l k : List (Hnd)) (hl : l.length ≤ maxLen) (M : Mem) : ev tab prim 74 [.list 4 (l.map Hnd.v) false, .list 4 (k.map Hnd.v) false] M = some (.bool (eqF Hnd.eq l k), M) := by
  rw [ev_fn' tab prim (f := 74) rfl _ _ rfl]
  by_cases h : l.length = k.length
  · have e : ((l.length : Int) != (k.length : Int)) = false := by simp [h]
    have hL := loop_eq Hnd.eq l k h (b := L74_0) (fun i => { env := [(0, .list 4 (l.map Hnd.v) false), (1, .list 4 (k.map Hnd.v) false), (12, .int .i64 l.length), (13, .int .i64 i)], mem := [] :: M }) (.exit 0, { env := [], mem := [] :: M }) (.ret, { env := [(4, .bool false)], mem := [] :: M })
      (fun i hi hi' hh => by
        have a1 : (i : Int) < (l.length : Int) := by omega
        have a2 : (i : Int) < (k.length : Int) := by omega
        have hw := wrap_succ hi hl
        have hx : (l.map Hnd.v)[i]? = some (Hnd.v l[i]) := by simp [hi]
        have hy : (k.map Hnd.v)[i]? = some (Hnd.v k[i]) := by simp [hi']
        skip
        simp [-rSeq, L74_0, a1, a2, hw, idxOk, hx, hy, hh, Hnd.v, rseqHnd])
      (fun i hi hi' hh => by
        have a1 : (i : Int) < (l.length : Int) := by omega
        have a2 : (i : Int) < (k.length : Int) := by omega
        have hx : (l.map Hnd.v)[i]? = some (Hnd.v l[i]) := by simp [hi]
        have hy : (k.map Hnd.v)[i]? = some (Hnd.v k[i]) := by simp [hi']
        skip
        simp [-rSeq, L74_0, a1, a2, idxOk, hx, hy, hh, Hnd.v, rseqHnd])
      (by simp [L74_0]) (by simp) (by simp)
    simp only [Int.natCast_zero] at hL
    cases hq : eqF Hnd.eq l k <;> rw [hq] at hL <;> simp at hL <;> simp [e, hL]
  · have e : ((l.length : Int) != (k.length : Int)) = true := by simp; omega
    have : eqF Hnd.eq l k = false := by
      cases hq : eqF Hnd.eq l k
      · rfl
      · exact absurd (eqF_len hq) h
    simp [e, this]

theorem ev_EqInss (l k : List Ins) (hl : l.length ≤ maxLen) (hp : ∀ x ∈ l, ∀ y ∈ k, ∀ M, ev tab prim 73 [Ins.v x, Ins.v y] M = some (.bool (Ins.same x y), M)) (M : Mem) : ev tab prim 72 [.list 6 (l.map Ins.v) false, .list 6 (k.map Ins.v) false, .func (.func 73) [] []] M = some (.bool (eqF Ins.same l k), M) := by
  rw [ev_fn' tab prim (f := 72) rfl _ _ rfl]
  by_cases h : l.length = k.length
  · have e : ((l.length : Int) != (k.length : Int)) = false := by simp [h]
    have hL := loop_eq Ins.same l k h (b := L72_0) (fun i => { env := [(1, .list 6 (k.map Ins.v) false), (2, .func (.func 73) [] []), (15, .list 6 (l.map Ins.v) false), (16, .int .i64 l.length), (17, .int .i64 i)], mem := [] :: M }) (.exit 0, { env := [], mem := [] :: M }) (.ret, { env := [(6, .bool false)], mem := [] :: M })
      (fun i hi hi' hh => by
        have a1 : (i : Int) < (l.length : Int) := by omega
        have a2 : (i : Int) < (k.length : Int) := by omega
        have hw := wrap_succ hi hl
        have hx : (l.map Ins.v)[i]? = some (Ins.v l[i]) := by simp [hi]
        have hy : (k.map Ins.v)[i]? = some (Ins.v k[i]) := by simp [hi']
        have hc := hp l[i] (List.getElem_mem hi) k[i] (List.getElem_mem hi') ([] :: M)
        simp only [Ins.v] at hc
        simp [L72_0, a1, a2, hw, idxOk, hx, hy, Ins.v, hc, hh])
      (fun i hi hi' hh => by
        have a1 : (i : Int) < (l.length : Int) := by omega
        have a2 : (i : Int) < (k.length : Int) := by omega
        have hx : (l.map Ins.v)[i]? = some (Ins.v l[i]) := by simp [hi]
        have hy : (k.map Ins.v)[i]? = some (Ins.v k[i]) := by simp [hi']
        have hc := hp l[i] (List.getElem_mem hi) k[i] (List.getElem_mem hi') ([] :: M)
        simp only [Ins.v] at hc
        simp [L72_0, a1, a2, idxOk, hx, hy, Ins.v, hc, hh])
      (by simp [L72_0]) (by simp) (by simp)
    simp only [Int.natCast_zero] at hL
    cases hq : eqF Ins.same l k <;> rw [hq] at hL <;> simp at hL <;> simp [e, hL]
  · have e : ((l.length : Int) != (k.length : Int)) = true := by simp; omega
    have : eqF Ins.same l k = false := by
      cases hq : eqF Ins.same l k
      · rfl
      · exact absurd (eqF_len hq) h
    simp [e, this]

def Mth.same (m k : Mth) : Bool := m.n == k.n && (m.d == k.d && (m.s == k.s && (m.a == k.a && (m.st == k.st && (m.lo == k.lo && (eqF Ins.same m.code k.code && eqF Hnd.eq m.hs k.hs))))))
theorem Mth.same_refl (m : Mth) : m.same m = true := by simp [Mth.same, eqF_refl fun x _ => Ins.same_refl x, eqF_refl fun x _ => Hnd.eq_refl x]

set_option maxHeartbeats 4000000 in
theorem ev_sameMethod (m k : Mth) (hm : m.Wf) (M : Mem) : ev tab prim 40 [m.v, k.v] M = some (.bool (m.same k), M) := by
  have h1 := ev_EqInss m.code k.code hm.code (fun x _ y _ M => ev_Same x y M) ([] :: M)
  have h2 := ev_EqHnds m.hs k.hs hm.hs [[], []]
  unfold Mth.v Mth.cells Mth.same
  rw [ev_fn' tab prim (f := 40) rfl _ _ rfl]
  generalize eqF Ins.same m.code k.code = e1 at *
  generalize eqF Hnd.eq m.hs k.hs = e2 at *
  cases b1 : m.n == k.n
  · simp [b1]
  cases b2 : m.d == k.d
  · simp [b1, b2]
  cases b3 : m.s == k.s
  · simp [b1, b2, b3]
  cases b4 : m.a == k.a
  · simp [b1, b2, b3, b4]
  cases b5 : m.st == k.st
  · simp [b1, b2, b3, b4, b5]
  cases b6 : m.lo == k.lo
  · simp [b1, b2, b3, b4, b5, b6]
  cases e1
  · simp [b1, b2, b3, b4, b5, b6, h1]
  simp [b1, b2, b3, b4, b5, b6, h1, h2]

theorem ev_EqMths (l k : List Mth) (hl : l.length ≤ maxLen) (hp : ∀ x ∈ l, ∀ y ∈ k, ∀ M, ev tab prim 40 [Mth.v x, Mth.v y] M = some (.bool (Mth.same x y), M)) (M : Mem) : ev tab prim 39 [.list 8 (l.map Mth.v) false, .list 8 (k.map Mth.v) false, .func (.func 40) [] []] M = some (.bool (eqF Mth.same l k), M) := by
  rw [ev_fn' tab prim (f := 39) rfl _ _ rfl]
  by_cases h : l.length = k.length
  · have e : ((l.length : Int) != (k.length : Int)) = false := by simp [h]
    have hL := loop_eq Mth.same l k h (b := L39_0) (fun i => { env := [(1, .list 8 (k.map Mth.v) false), (2, .func (.func 40) [] []), (15, .list 8 (l.map Mth.v) false), (16, .int .i64 l.length), (17, .int .i64 i)], mem := [] :: M }) (.exit 0, { env := [], mem := [] :: M }) (.ret, { env := [(6, .bool false)], mem := [] :: M })
      (fun i hi hi' hh => by
        have a1 : (i : Int) < (l.length : Int) := by omega
        have a2 : (i : Int) < (k.length : Int) := by omega
        have hw := wrap_succ hi hl
        have hx : (l.map Mth.v)[i]? = some (Mth.v l[i]) := by simp [hi]
        have hy : (k.map Mth.v)[i]? = some (Mth.v k[i]) := by simp [hi']
        have hc := hp l[i] (List.getElem_mem hi) k[i] (List.getElem_mem hi') ([] :: M)
        simp only [Mth.v, Mth.cells] at hc
        simp [L39_0, a1, a2, hw, idxOk, hx, hy, Mth.v, Mth.cells, hc, hh])
      (fun i hi hi' hh => by
        have a1 : (i : Int) < (l.length : Int) := by omega
        have a2 : (i : Int) < (k.length : Int) := by omega
        have hx : (l.map Mth.v)[i]? = some (Mth.v l[i]) := by simp [hi]
        have hy : (k.map Mth.v)[i]? = some (Mth.v k[i]) := by simp [hi']
        have hc := hp l[i] (List.getElem_mem hi) k[i] (List.getElem_mem hi') ([] :: M)
        simp only [Mth.v, Mth.cells] at hc
        simp [L39_0, a1, a2, idxOk, hx, hy, Mth.v, Mth.cells, hc, hh])
      (by simp [L39_0]) (by simp) (by simp)
    simp only [Int.natCast_zero] at hL
    cases hq : eqF Mth.same l k <;> rw [hq] at hL <;> simp at hL <;> simp [e, hL]
  · have e : ((l.length : Int) != (k.length : Int)) = true := by simp; omega
    have : eqF Mth.same l k = false := by
      cases hq : eqF Mth.same l k
      · rfl
      · exact absurd (eqF_len hq) h
    simp [e, this]

/-! The law of classes that are the same. -/
def Cls.same (c k : Cls) : Bool := c.n == k.n && (c.s == k.s && (c.i == k.i && (c.a == k.a && (eqF (fun x y => x == y) c.im k.im && (eqF Fld.eq c.fs k.fs && eqF Mth.same c.ms k.ms)))))
theorem Cls.same_refl (c : Cls) : c.same c = true := by simp [Cls.same, eqF_refl (f := fun x y => x == y) fun (x : List UInt8) _ => beq_self_eq_true x, eqF_refl fun x _ => Fld.eq_refl x, eqF_refl fun x _ => Mth.same_refl x]

set_option maxHeartbeats 4000000 in
theorem ev_ClassSame (c k : Cls) (hc : c.Wf) (M : Mem) : ev tab prim 12 [c.v, k.v] M = some (.bool (c.same k), M) := by
  have h0 := ev_EqStrs c.im k.im hc.im [[], []]
  have h1 := ev_EqFlds c.fs k.fs hc.fs [[], []]
  have h2 := ev_EqMths c.ms k.ms hc.ms (fun x hx y _ M => ev_sameMethod x y (hc.mss x hx) M) ([] :: M)
  unfold Cls.v Cls.cells Cls.same
  rw [ev_fn' tab prim (f := 12) rfl _ _ rfl]
  generalize eqF (fun x y => x == y) c.im k.im = e0 at *
  generalize eqF Fld.eq c.fs k.fs = e1 at *
  generalize eqF Mth.same c.ms k.ms = e2 at *
  cases b1 : c.n == k.n
  · simp [b1]
  cases b2 : c.s == k.s
  · simp [b1, b2]
  cases b3 : c.i == k.i
  · simp [b1, b2, b3]
  cases b4 : c.a == k.a
  · simp [b1, b2, b3, b4]
  cases e0
  · simp [b1, b2, b3, b4, h0]
  cases e1
  · simp [b1, b2, b3, b4, h0, h1]
  simp [b1, b2, b3, b4, h0, h1, h2]

theorem ev_RefTexts (l k : List (List UInt8)) (hl : l.length ≤ maxLen) : ev tab prim 36 [.list 1 (l.map V.str) false, .list 1 (k.map V.str) false] [[], []] = some (.bool (eqF (fun x y => x == y) l k), [[], []]) := by
  rw [ev_fn' tab prim (f := 36) rfl _ _ rfl]
  by_cases h : l.length = k.length
  · have e : ((l.length : Int) != (k.length : Int)) = false := by simp [h]
    have hL := loop_eq (fun x y => x == y) l k h (b := L36_0) (fun i => { env := [(0, .list 1 (l.map V.str) false), (1, .list 1 (k.map V.str) false), (5, .int .i64 i)], mem := [[], [], []] }) (.exit 0, { env := [], mem := [[], [], []] }) (.ret, { env := [(4, .bool false)], mem := [[], [], []] })
      (fun i hi hi' hh => by
        have a1 : (i : Int) < (l.length : Int) := by omega
        have a2 : (i : Int) < (k.length : Int) := by omega
        have hw := wrap_succ hi hl
        have hx : (l.map V.str)[i]? = some (V.str l[i]) := by simp [hi]
        have hy : (k.map V.str)[i]? = some (V.str k[i]) := by simp [hi']
        replace hh : (l[i] == k[i]) = true := hh
        simp [L36_0, a1, a2, hw, idxOk, hx, hy, hh])
      (fun i hi hi' hh => by
        have a1 : (i : Int) < (l.length : Int) := by omega
        have a2 : (i : Int) < (k.length : Int) := by omega
        have hx : (l.map V.str)[i]? = some (V.str l[i]) := by simp [hi]
        have hy : (k.map V.str)[i]? = some (V.str k[i]) := by simp [hi']
        replace hh : (l[i] == k[i]) = false := hh
        simp [L36_0, a1, a2, idxOk, hx, hy, hh])
      (by simp [L36_0]) (by simp) (by simp)
    simp only [Int.natCast_zero] at hL
    cases hq : eqF (fun x y => x == y) l k <;> rw [hq] at hL <;> simp at hL <;> simp [e, hL]
  · have e : ((l.length : Int) != (k.length : Int)) = true := by simp; omega
    have : eqF (fun x y => x == y) l k = false := by
      cases hq : eqF (fun x y => x == y) l k
      · rfl
      · exact absurd (eqF_len hq) h
    simp [e, this]

def rsSt (c k : Cls) (r : Env) : St := { env := (2, .cptr c.cells) :: (3, .cptr k.cells) :: r, mem := [[], [], []] }
def rNo : AExit × St := (.ret, { env := [(4, .bool false)], mem := [[], [], []] })

theorem rLoop0 (c k : Cls) (hc : c.Wf) (h : c.fs.length = k.fs.length) : cv tab prim (.loop L11_0) (rsSt c k [(5, .int .i64 0)]) = some (if eqF Fld.eq c.fs k.fs = true then (.exit 0, rsSt c k []) else rNo) := by
  refine loop_eq Fld.eq c.fs k.fs h (fun i => rsSt c k [(5, .int .i64 i)]) _ _ (fun i hi hi' hh => ?_) (fun i hi hi' hh => ?_) ?_ (by simp) (by simp [rNo])
  · have a1 : (i : Int) < (c.fs.length : Int) := by omega
    have a2 : (i : Int) < (k.fs.length : Int) := by omega
    have hw := wrap_succ hi hc.fs
    have hx : (c.fs.map Fld.v)[i]? = some (Fld.v c.fs[i]) := by simp [hi]
    have hy : (k.fs.map Fld.v)[i]? = some (Fld.v k.fs[i]) := by simp [hi']
    simp [-rSeq, rsSt, Cls.cells, L11_0, a1, a2, hw, idxOk, hx, hy, Fld.v, rseqFld, hh]
  · have a1 : (i : Int) < (c.fs.length : Int) := by omega
    have a2 : (i : Int) < (k.fs.length : Int) := by omega
    have hx : (c.fs.map Fld.v)[i]? = some (Fld.v c.fs[i]) := by simp [hi]
    have hy : (k.fs.map Fld.v)[i]? = some (Fld.v k.fs[i]) := by simp [hi']
    simp [-rSeq, rsSt, rNo, Cls.cells, L11_0, a1, a2, idxOk, hx, hy, Fld.v, rseqFld, hh]
  · simp [rsSt, Cls.cells, L11_0]

def mmSt (c k : Cls) (i : Nat) (m n : Mth) (r : Env) : St := rsSt c k ((6, .int .i64 i) :: (7, .cptr m.cells) :: (8, .cptr n.cells) :: r)

theorem ev_Pure (x : Ins) : ev tab prim 13 [x.v] [[], []] = some (.agg [.int .i64 x.o, .int .i64 (mI (rowB x.o 1) x.a), .int .i64 (mI (rowB x.o 2) x.b), .str (mS (rowB x.o 3) x.c), .str (mS (rowB x.o 4) x.n), .str (mS (rowB x.o 5) x.d)], [[], []]) := ev13 _ _ _ _ _ _

theorem rseqIns (o a b : Int) (c n d : List UInt8) (o' a' b' : Int) (c' n' d' : List UInt8) :
    rSeq [0, 0, 0, 1, 1, 1] true [.agg [.int .i64 o, .int .i64 a, .int .i64 b, .str c, .str n, .str d], .agg [.int .i64 o', .int .i64 a', .int .i64 b', .str c', .str n', .str d']] =
      some (.bool (!(eq6 o a b c n d o' a' b' c' n' d'))) := by
  unfold eq6
  cases h1 : o == o' <;> cases h2 : a == a' <;> cases h3 : b == b' <;> cases h4 : c == c' <;> cases h5 : n == n' <;> cases h6 : d == d' <;> simp [h1, h2, h3, h4, h5, h6]

theorem rLoop1 (c k : Cls) (j : Nat) (m n : Mth) (hm : m.Wf) (h : m.code.length = n.code.length) : cv tab prim (.loop L11_1) (mmSt c k j m n [(9, .int .i64 0)]) = some (if eqF Ins.same m.code n.code = true then (.exit 4, mmSt c k j m n []) else rNo) := by
  refine loop_eq Ins.same m.code n.code h (fun i => mmSt c k j m n [(9, .int .i64 i)]) _ _ (fun i hi hi' hh => ?_) (fun i hi hi' hh => ?_) ?_ (by simp) (by simp [rNo])
  · have a1 : (i : Int) < (m.code.length : Int) := by omega
    have a2 : (i : Int) < (n.code.length : Int) := by omega
    have hw := wrap_succ hi hm.code
    have hx : (m.code.map Ins.v)[i]? = some (Ins.v m.code[i]) := by simp [hi]
    have hy : (n.code.map Ins.v)[i]? = some (Ins.v n.code[i]) := by simp [hi']
    have p1 := ev_Pure m.code[i]
    have p2 := ev_Pure n.code[i]
    unfold Ins.v at p1 p2
    unfold Ins.same Ev.same at hh
    simp [-rSeq, mmSt, rsSt, Mth.cells, L11_1, a1, a2, hw, idxOk, hx, hy, Ins.v, p1, p2, rseqIns, hh]
  · have a1 : (i : Int) < (m.code.length : Int) := by omega
    have a2 : (i : Int) < (n.code.length : Int) := by omega
    have hx : (m.code.map Ins.v)[i]? = some (Ins.v m.code[i]) := by simp [hi]
    have hy : (n.code.map Ins.v)[i]? = some (Ins.v n.code[i]) := by simp [hi']
    have p1 := ev_Pure m.code[i]
    have p2 := ev_Pure n.code[i]
    unfold Ins.v at p1 p2
    unfold Ins.same Ev.same at hh
    simp [-rSeq, mmSt, rsSt, rNo, Mth.cells, L11_1, a1, a2, idxOk, hx, hy, Ins.v, p1, p2, rseqIns, hh]
  · simp [mmSt, rsSt, Mth.cells, L11_1]

theorem rLoop2 (c k : Cls) (j : Nat) (m n : Mth) (hm : m.Wf) (h : m.hs.length = n.hs.length) : cv tab prim (.loop L11_2) (mmSt c k j m n [(10, .int .i64 0)]) = some (if eqF Hnd.eq m.hs n.hs = true then (.exit 6, rsSt c k [(6, .int .i64 j)]) else rNo) := by
  refine loop_eq Hnd.eq m.hs n.hs h (fun i => mmSt c k j m n [(10, .int .i64 i)]) _ _ (fun i hi hi' hh => ?_) (fun i hi hi' hh => ?_) ?_ (by simp) (by simp [rNo])
  · have a1 : (i : Int) < (m.hs.length : Int) := by omega
    have a2 : (i : Int) < (n.hs.length : Int) := by omega
    have hw := wrap_succ hi hm.hs
    have hx : (m.hs.map Hnd.v)[i]? = some (Hnd.v m.hs[i]) := by simp [hi]
    have hy : (n.hs.map Hnd.v)[i]? = some (Hnd.v n.hs[i]) := by simp [hi']
    simp [-rSeq, mmSt, rsSt, Mth.cells, L11_2, a1, a2, hw, idxOk, hx, hy, Hnd.v, rseqHnd, hh]
  · have a1 : (i : Int) < (m.hs.length : Int) := by omega
    have a2 : (i : Int) < (n.hs.length : Int) := by omega
    have hx : (m.hs.map Hnd.v)[i]? = some (Hnd.v m.hs[i]) := by simp [hi]
    have hy : (n.hs.map Hnd.v)[i]? = some (Hnd.v n.hs[i]) := by simp [hi']
    simp [-rSeq, mmSt, rsSt, rNo, Mth.cells, L11_2, a1, a2, idxOk, hx, hy, Hnd.v, rseqHnd, hh]
  · simp [mmSt, rsSt, Mth.cells, L11_2]

set_option maxHeartbeats 16000000 in
theorem rStep (c k : Cls) (i : Nat) (hc : c.Wf) (hi : i < c.ms.length) (hi' : i < k.ms.length) :
    cv tab prim L11_3 (rsSt c k [(6, .int .i64 i)]) = some (bif c.ms[i].same k.ms[i] then (.normal, rsSt c k [(6, .int .i64 (i + 1 : Nat))]) else rNo) := by
  have a1 : (i : Int) < (c.ms.length : Int) := by omega
  have a2 : (i : Int) < (k.ms.length : Int) := by omega
  have hw := wrap_succ hi hc.ms
  have hx : (c.ms.map Mth.v)[i]? = some (Mth.v c.ms[i]) := by simp [hi]
  have hy : (k.ms.map Mth.v)[i]? = some (Mth.v k.ms[i]) := by simp [hi']
  have hm := hc.mss _ (List.getElem_mem hi)
  generalize c.ms[i] = m at hx hm ⊢
  generalize k.ms[i] = n at hy ⊢
  have l1 := rLoop1 c k i m n hm
  have l2 := rLoop2 c k i m n hm
  simp only [mmSt, rsSt, Cls.cells, Mth.cells, rNo] at l1 l2
  simp only [rsSt, rNo, Cls.cells, Mth.same]
  cases b1 : m.n == n.n
  · simp [L11_3, a1, a2, idxOk, hx, hy, Mth.v, Mth.cells, b1]
  cases b2 : m.d == n.d
  · simp [L11_3, a1, a2, idxOk, hx, hy, Mth.v, Mth.cells, b1, b2]
  cases b3 : m.s == n.s
  · simp [L11_3, a1, a2, idxOk, hx, hy, Mth.v, Mth.cells, b1, b2, b3]
  cases b4 : m.a == n.a
  · simp [L11_3, a1, a2, idxOk, hx, hy, Mth.v, Mth.cells, b1, b2, b3, b4]
  cases b5 : m.st == n.st
  · have n5 : (m.st != n.st) = true := by simp [bne, b5]
    simp [L11_3, a1, a2, idxOk, hx, hy, Mth.v, Mth.cells, b1, b2, b3, b4, b5, n5]
  have n5 : (m.st != n.st) = false := by simp [bne, b5]
  cases b6 : m.lo == n.lo
  · have n6 : (m.lo != n.lo) = true := by simp [bne, b6]
    simp [L11_3, a1, a2, idxOk, hx, hy, Mth.v, Mth.cells, b1, b2, b3, b4, b5, n5, b6, n6]
  have n6 : (m.lo != n.lo) = false := by simp [bne, b6]
  by_cases h7 : m.code.length = n.code.length
  · have n7 : ((m.code.length : Int) != (n.code.length : Int)) = false := by simp [h7]
    by_cases h8 : m.hs.length = n.hs.length
    · have n8 : ((m.hs.length : Int) != (n.hs.length : Int)) = false := by simp [h8]
      have l1 := l1 h7
      have l2 := l2 h8
      cases e1 : eqF Ins.same m.code n.code
      · simp only [e1, Bool.false_eq_true, if_false] at l1
        simp [L11_3, a1, a2, idxOk, hx, hy, Mth.v, Mth.cells, b1, b2, b3, b4, b5, n5, b6, n6, n7, n8, l1]
      simp only [e1, if_true] at l1
      cases e2 : eqF Hnd.eq m.hs n.hs
      · simp only [e2, Bool.false_eq_true, if_false] at l2
        simp [L11_3, a1, a2, idxOk, hx, hy, Mth.v, Mth.cells, b1, b2, b3, b4, b5, n5, b6, n6, n7, n8, l1, l2]
      · simp only [e2, if_true] at l2
        simp [L11_3, a1, a2, hw, idxOk, hx, hy, Mth.v, Mth.cells, b1, b2, b3, b4, b5, n5, b6, n6, n7, n8, l1, l2]
    · have n8 : ((m.hs.length : Int) != (n.hs.length : Int)) = true := by simp; omega
      have e2 : eqF Hnd.eq m.hs n.hs = false := by
        cases hq : eqF Hnd.eq m.hs n.hs
        · rfl
        · exact absurd (eqF_len hq) h8
      simp [L11_3, a1, a2, idxOk, hx, hy, Mth.v, Mth.cells, b1, b2, b3, b4, b5, n5, b6, n6, n7, n8, e2]
  · have n7 : ((m.code.length : Int) != (n.code.length : Int)) = true := by simp; omega
    have e1 : eqF Ins.same m.code n.code = false := by
      cases hq : eqF Ins.same m.code n.code
      · rfl
      · exact absurd (eqF_len hq) h7
    simp [L11_3, a1, a2, idxOk, hx, hy, Mth.v, Mth.cells, b1, b2, b3, b4, b5, n5, b6, n6, n7, e1]

theorem rLoop3 (c k : Cls) (hc : c.Wf) (h : c.ms.length = k.ms.length) : cv tab prim (.loop L11_3) (rsSt c k [(6, .int .i64 0)]) = some (if eqF Mth.same c.ms k.ms = true then (.exit 2, { env := [], mem := [[], [], []] }) else rNo) := by
  refine loop_eq Mth.same c.ms k.ms h (fun i => rsSt c k [(6, .int .i64 i)]) _ _ (fun i hi hi' hh => ?_) (fun i hi hi' hh => ?_) ?_ (by simp) (by simp [rNo])
  · rw [rStep c k i hc hi hi', hh]; rfl
  · rw [rStep c k i hc hi hi', hh]; rfl
  · simp [rsSt, Cls.cells, L11_3]

set_option maxHeartbeats 16000000 in
theorem ev_RefSame (c k : Cls) (hc : c.Wf) : ev tab prim 11 [c.v, k.v] [[], []] = some (.bool (c.same k), [[], []]) := by
  have h0 := ev_RefTexts c.im k.im hc.im
  have l0 := rLoop0 c k hc
  have l3 := rLoop3 c k hc
  simp only [rsSt, Cls.cells, rNo] at l0 l3
  unfold Cls.v Cls.cells Cls.same
  rw [ev_fn' tab prim (f := 11) rfl _ _ rfl]
  cases b1 : c.n == k.n
  · simp [b1]
  cases b2 : c.s == k.s
  · simp [b1, b2]
  cases b3 : c.i == k.i
  · simp [b1, b2, b3]
  cases b4 : c.a == k.a
  · simp [b1, b2, b3, b4]
  cases e0 : eqF (fun x y => x == y) c.im k.im
  · rw [e0] at h0; simp [b1, b2, b3, b4, h0]
  rw [e0] at h0
  by_cases h7 : c.fs.length = k.fs.length
  · have n7 : ((c.fs.length : Int) != (k.fs.length : Int)) = false := by simp [h7]
    by_cases h8 : c.ms.length = k.ms.length
    · have n8 : ((c.ms.length : Int) != (k.ms.length : Int)) = false := by simp [h8]
      have l0 := l0 h7
      have l3 := l3 h8
      cases e1 : eqF Fld.eq c.fs k.fs
      · simp only [e1, Bool.false_eq_true, if_false] at l0
        simp [b1, b2, b3, b4, h0, n7, n8, l0]
      simp only [e1, if_true] at l0
      cases e2 : eqF Mth.same c.ms k.ms
      · simp only [e2, Bool.false_eq_true, if_false] at l3
        simp [b1, b2, b3, b4, h0, n7, n8, l0, l3]
      · simp only [e2, if_true] at l3
        simp [b1, b2, b3, b4, h0, n7, n8, l0, l3]
    · have n8 : ((c.ms.length : Int) != (k.ms.length : Int)) = true := by simp; omega
      have e2 : eqF Mth.same c.ms k.ms = false := by
        cases hq : eqF Mth.same c.ms k.ms
        · rfl
        · exact absurd (eqF_len hq) h8
      simp [b1, b2, b3, b4, h0, n7, n8, e2]
  · have n7 : ((c.fs.length : Int) != (k.fs.length : Int)) = true := by simp; omega
    have e1 : eqF Fld.eq c.fs k.fs = false := by
      cases hq : eqF Fld.eq c.fs k.fs
      · rfl
      · exact absurd (eqF_len hq) h7
    simp [b1, b2, b3, b4, h0, n7, e1]

set_option maxRecDepth 100000 in
theorem ev_awake5 : ev tab prim 8 [] [[], []] = some (.bool true, [[], []]) := ev_of_fuel 200 (by kernel_rfl)

end Go.Proofs.YtgmlanhhjmhmmaaGreat.Ev
