/- Classes that are the same. -/
import Derived.Test.YtgmlanhhjmhmmaaGb
namespace Go.Proofs.Ytgmlanhhjmhmmaa.Ev
open Go

def eqF {α β : Type} (f : α → β → Bool) : List α → List β → Bool
  | [], [] => true
  | x :: r, y :: s => f x y && eqF f r s
  | _, _ => false

theorem eqF_len {α β : Type} {f : α → β → Bool} : ∀ {l : List α} {k : List β}, eqF f l k = true → l.length = k.length
  | [], [], _ => rfl
  | _ :: r, _ :: s, h => by simp only [eqF, Bool.and_eq_true] at h; simp [eqF_len h.2]
theorem eqF_iff {α β : Type} (f : α → β → Bool) : ∀ (l : List α) (k : List β), eqF f l k = true ↔ l.length = k.length ∧ ∀ (i : Nat) (h : i < l.length) (h' : i < k.length), f l[i] k[i] = true
  | [], [] => by simp [eqF]
  | [], _ :: _ => by simp [eqF]
  | _ :: _, [] => by simp [eqF]
  | x :: r, y :: s => by
    simp only [eqF, Bool.and_eq_true, eqF_iff f r s, List.length_cons, Nat.add_right_cancel_iff]
    constructor
    · rintro ⟨h1, h2, h3⟩
      refine ⟨h2, fun i hi hi' => ?_⟩
      cases i with
      | zero => exact h1
      | succ i => exact h3 i (by omega) (by omega)
    · rintro ⟨h2, h3⟩
      exact ⟨h3 0 (by omega) (by omega), h2, fun i hi hi' => h3 (i + 1) (by omega) (by omega)⟩
theorem eqF_refl {α : Type} {f : α → α → Bool} {l : List α} (h : ∀ x ∈ l, f x x = true) : eqF f l l = true :=
  (eqF_iff f l l).2 ⟨rfl, fun _ hi _ => h _ (List.getElem_mem hi)⟩
theorem eqF_congr {α β : Type} {f g : α → β → Bool} (h : ∀ x y, f x y = g x y) : ∀ (l : List α) (k : List β), eqF f l k = eqF g l k
  | [], [] => rfl
  | [], _ :: _ => rfl
  | _ :: _, [] => rfl
  | x :: r, y :: s => by simp only [eqF, h, eqF_congr h r s]

/-- A loop that goes through two rows as long as each other. -/
theorem loop_eq {α β : Type} (f : α → β → Bool) (l : List α) (k : List β) (hl : l.length = k.length) {b : ACode} (st : Nat → St) (out bad : AExit × St)
    (h1 : ∀ i (h : i < l.length) (h' : i < k.length), f l[i] k[i] = true → cv tab prim b (st i) = some (.normal, st (i + 1)))
    (h2 : ∀ i (h : i < l.length) (h' : i < k.length), f l[i] k[i] = false → cv tab prim b (st i) = some bad)
    (h3 : cv tab prim b (st l.length) = some out) (ho : out.1 ≠ .normal) (hb : bad.1 ≠ .normal) :
    cv tab prim (.loop b) (st 0) = some (if eqF f l k = true then out else bad) := by
  have hp : ∀ (i : Nat) (h : i < l.length) (h' : i < k.length), (if h : i < l.length ∧ i < k.length then f l[i] k[i] else true) = f l[i] k[i] := fun i h h' => dif_pos ⟨h, h'⟩
  rw [loop_find st l.length (fun i => if h : i < l.length ∧ i < k.length then f l[i] k[i] else true) out bad (fun i hi h => ?_) (fun i hi h => ?_) h3 ho hb]
  · refine congrArg some ?_
    by_cases h : eqF f l k = true
    · rw [if_pos h, if_pos]
      intro i hi
      rw [hp i hi (by omega)]
      exact ((eqF_iff f l k).1 h).2 i hi (by omega)
    · rw [if_neg h, if_neg]
      intro hq
      refine h ((eqF_iff f l k).2 ⟨hl, fun i hi hi' => ?_⟩)
      have := hq i hi
      rwa [hp i hi hi'] at this
  · rw [hp i hi (by omega)] at h; exact h1 i hi (by omega) h
  · rw [hp i hi (by omega)] at h; exact h2 i hi (by omega) h

def Ins.same (x y : Ins) : Bool := Ev.same x.o x.a x.b x.c x.n x.d y.o y.a y.b y.c y.n y.d
theorem Ins.same_refl (x : Ins) : x.same x = true := eq6_refl _ _ _ _ _ _
theorem ev_Same (x y : Ins) (M : Mem) : ev tab prim 70 [x.v, y.v] M = some (.bool (x.same y), M) := by
  unfold Ins.v
  rw [ev_fn' tab prim (f := 70) rfl _ _ rfl]
  simp [-rSeq, rseq6, ev87, Ev.same, Ins.same]

def Fld.eq (x y : Fld) : Bool := x.n == y.n && (x.d == y.d && x.s == y.s)
def Hnd.eq (x y : Hnd) : Bool := x.f == y.f && (x.t == y.t && (x.a == y.a && x.c == y.c))
theorem rseqFld (x y : Fld) (neg : Bool) : rSeq [1, 1, 2] neg [.agg [.str x.n, .str x.d, .bool x.s], .agg [.str y.n, .str y.d, .bool y.s]] = some (.bool (Fld.eq x y != neg)) := by
  unfold Fld.eq
  cases h1 : x.n == y.n <;> cases h2 : x.d == y.d <;> cases x.s <;> cases y.s <;> cases neg <;> simp [h1, h2]
theorem rseqHnd (x y : Hnd) (neg : Bool) : rSeq [0, 0, 0, 1] neg [.agg [.int .i64 x.f, .int .i64 x.t, .int .i64 x.a, .str x.c], .agg [.int .i64 y.f, .int .i64 y.t, .int .i64 y.a, .str y.c]] = some (.bool (Hnd.eq x y != neg)) := by
  unfold Hnd.eq
  cases h1 : x.f == y.f <;> cases h2 : x.t == y.t <;> cases h3 : x.a == y.a <;> cases h4 : x.c == y.c <;> cases neg <;> simp [h1, h2, h3, h4]
theorem Fld.eq_refl (x : Fld) : x.eq x = true := by simp [Fld.eq]
theorem Hnd.eq_refl (x : Hnd) : x.eq x = true := by simp [Hnd.eq]

theorem ev_EqStrs (l k : List (List UInt8)) (hl : l.length ≤ maxLen) (M : Mem) : ev tab prim 44 [.list 1 (l.map V.str) false, .list 1 (k.map V.str) false] M = some (.bool (eqF (fun x y => x == y) l k), M) := by
  rw [ev_fn' tab prim (f := 44) rfl _ _ rfl]
  by_cases h : l.length = k.length
  · have e : ((l.length : Int) != (k.length : Int)) = false := by simp [h]
    have hL := loop_eq (fun x y => x == y) l k h (b := L44_0) (fun i => { env := [(0, .list 1 (l.map V.str) false), (1, .list 1 (k.map V.str) false), (12, .int .i64 l.length), (13, .int .i64 i)], mem := [] :: M }) (.exit 0, { env := [], mem := [] :: M }) (.ret, { env := [(4, .bool false)], mem := [] :: M })
      (fun i hi hi' hh => by
        have a1 : (i : Int) < (l.length : Int) := by omega
        have a2 : (i : Int) < (k.length : Int) := by omega
        have hw := wrap_succ hi hl
        have hx : (l.map V.str)[i]? = some (V.str l[i]) := by simp [hi]
        have hy : (k.map V.str)[i]? = some (V.str k[i]) := by simp [hi']
        replace hh : (l[i] == k[i]) = true := hh
        simp [L44_0, a1, a2, hw, idxOk, hx, hy, hh])
      (fun i hi hi' hh => by
        have a1 : (i : Int) < (l.length : Int) := by omega
        have a2 : (i : Int) < (k.length : Int) := by omega
        have hx : (l.map V.str)[i]? = some (V.str l[i]) := by simp [hi]
        have hy : (k.map V.str)[i]? = some (V.str k[i]) := by simp [hi']
        replace hh : (l[i] == k[i]) = false := hh
        simp [L44_0, a1, a2, idxOk, hx, hy, hh])
      (by simp [L44_0]) (by simp) (by simp)
    simp only [Int.natCast_zero] at hL
    cases hq : eqF (fun x y => x == y) l k <;> rw [hq] at hL <;> simp at hL <;> simp [e, hL]
  · have e : ((l.length : Int) != (k.length : Int)) = true := by simp; omega
    have : eqF (fun x y => x == y) l k = false := by
      cases hq : eqF (fun x y => x == y) l k
      · rfl
      · exact absurd (eqF_len hq) h
    simp [e, this]

theorem ev_EqFlds (l k : List (Fld)) (hl : l.length ≤ maxLen) (M : Mem) : ev tab prim 45 [.list 3 (l.map Fld.v) false, .list 3 (k.map Fld.v) false] M = some (.bool (eqF Fld.eq l k), M) := by
  rw [ev_fn' tab prim (f := 45) rfl _ _ rfl]
  by_cases h : l.length = k.length
  · have e : ((l.length : Int) != (k.length : Int)) = false := by simp [h]
    have hL := loop_eq Fld.eq l k h (b := L45_0) (fun i => { env := [(0, .list 3 (l.map Fld.v) false), (1, .list 3 (k.map Fld.v) false), (12, .int .i64 l.length), (13, .int .i64 i)], mem := [] :: M }) (.exit 0, { env := [], mem := [] :: M }) (.ret, { env := [(4, .bool false)], mem := [] :: M })
      (fun i hi hi' hh => by
        have a1 : (i : Int) < (l.length : Int) := by omega
        have a2 : (i : Int) < (k.length : Int) := by omega
        have hw := wrap_succ hi hl
        have hx : (l.map Fld.v)[i]? = some (Fld.v l[i]) := by simp [hi]
        have hy : (k.map Fld.v)[i]? = some (Fld.v k[i]) := by simp [hi']
        skip
        simp [-rSeq, L45_0, a1, a2, hw, idxOk, hx, hy, hh, Fld.v, rseqFld])
      (fun i hi hi' hh => by
        have a1 : (i : Int) < (l.length : Int) := by omega
        have a2 : (i : Int) < (k.length : Int) := by omega
        have hx : (l.map Fld.v)[i]? = some (Fld.v l[i]) := by simp [hi]
        have hy : (k.map Fld.v)[i]? = some (Fld.v k[i]) := by simp [hi']
        skip
        simp [-rSeq, L45_0, a1, a2, idxOk, hx, hy, hh, Fld.v, rseqFld])
      (by simp [L45_0]) (by simp) (by simp)
    simp only [Int.natCast_zero] at hL
    cases hq : eqF Fld.eq l k <;> rw [hq] at hL <;> simp at hL <;> simp [e, hL]
  · have e : ((l.length : Int) != (k.length : Int)) = true := by simp; omega
    have : eqF Fld.eq l k = false := by
      cases hq : eqF Fld.eq l k
      · rfl
      · exact absurd (eqF_len hq) h
    simp [e, this]

theorem ev_EqHnds (l k : List (Hnd)) (hl : l.length ≤ maxLen) (M : Mem) : ev tab prim 71 [.list 4 (l.map Hnd.v) false, .list 4 (k.map Hnd.v) false] M = some (.bool (eqF Hnd.eq l k), M) := by
  rw [ev_fn' tab prim (f := 71) rfl _ _ rfl]
  by_cases h : l.length = k.length
  · have e : ((l.length : Int) != (k.length : Int)) = false := by simp [h]
    have hL := loop_eq Hnd.eq l k h (b := L71_0) (fun i => { env := [(0, .list 4 (l.map Hnd.v) false), (1, .list 4 (k.map Hnd.v) false), (12, .int .i64 l.length), (13, .int .i64 i)], mem := [] :: M }) (.exit 0, { env := [], mem := [] :: M }) (.ret, { env := [(4, .bool false)], mem := [] :: M })
      (fun i hi hi' hh => by
        have a1 : (i : Int) < (l.length : Int) := by omega
        have a2 : (i : Int) < (k.length : Int) := by omega
        have hw := wrap_succ hi hl
        have hx : (l.map Hnd.v)[i]? = some (Hnd.v l[i]) := by simp [hi]
        have hy : (k.map Hnd.v)[i]? = some (Hnd.v k[i]) := by simp [hi']
        skip
        simp [-rSeq, L71_0, a1, a2, hw, idxOk, hx, hy, hh, Hnd.v, rseqHnd])
      (fun i hi hi' hh => by
        have a1 : (i : Int) < (l.length : Int) := by omega
        have a2 : (i : Int) < (k.length : Int) := by omega
        have hx : (l.map Hnd.v)[i]? = some (Hnd.v l[i]) := by simp [hi]
        have hy : (k.map Hnd.v)[i]? = some (Hnd.v k[i]) := by simp [hi']
        skip
        simp [-rSeq, L71_0, a1, a2, idxOk, hx, hy, hh, Hnd.v, rseqHnd])
      (by simp [L71_0]) (by simp) (by simp)
    simp only [Int.natCast_zero] at hL
    cases hq : eqF Hnd.eq l k <;> rw [hq] at hL <;> simp at hL <;> simp [e, hL]
  · have e : ((l.length : Int) != (k.length : Int)) = true := by simp; omega
    have : eqF Hnd.eq l k = false := by
      cases hq : eqF Hnd.eq l k
      · rfl
      · exact absurd (eqF_len hq) h
    simp [e, this]

theorem ev_EqInss (l k : List Ins) (hl : l.length ≤ maxLen) (hp : ∀ x ∈ l, ∀ y ∈ k, ∀ M, ev tab prim 70 [Ins.v x, Ins.v y] M = some (.bool (Ins.same x y), M)) (M : Mem) : ev tab prim 69 [.list 6 (l.map Ins.v) false, .list 6 (k.map Ins.v) false, .func (.func 70) [] []] M = some (.bool (eqF Ins.same l k), M) := by
  rw [ev_fn' tab prim (f := 69) rfl _ _ rfl]
  by_cases h : l.length = k.length
  · have e : ((l.length : Int) != (k.length : Int)) = false := by simp [h]
    have hL := loop_eq Ins.same l k h (b := L69_0) (fun i => { env := [(1, .list 6 (k.map Ins.v) false), (2, .func (.func 70) [] []), (15, .list 6 (l.map Ins.v) false), (16, .int .i64 l.length), (17, .int .i64 i)], mem := [] :: M }) (.exit 0, { env := [], mem := [] :: M }) (.ret, { env := [(6, .bool false)], mem := [] :: M })
      (fun i hi hi' hh => by
        have a1 : (i : Int) < (l.length : Int) := by omega
        have a2 : (i : Int) < (k.length : Int) := by omega
        have hw := wrap_succ hi hl
        have hx : (l.map Ins.v)[i]? = some (Ins.v l[i]) := by simp [hi]
        have hy : (k.map Ins.v)[i]? = some (Ins.v k[i]) := by simp [hi']
        have hc := hp l[i] (List.getElem_mem hi) k[i] (List.getElem_mem hi') ([] :: M)
        simp only [Ins.v] at hc
        simp [L69_0, a1, a2, hw, idxOk, hx, hy, Ins.v, hc, hh])
      (fun i hi hi' hh => by
        have a1 : (i : Int) < (l.length : Int) := by omega
        have a2 : (i : Int) < (k.length : Int) := by omega
        have hx : (l.map Ins.v)[i]? = some (Ins.v l[i]) := by simp [hi]
        have hy : (k.map Ins.v)[i]? = some (Ins.v k[i]) := by simp [hi']
        have hc := hp l[i] (List.getElem_mem hi) k[i] (List.getElem_mem hi') ([] :: M)
        simp only [Ins.v] at hc
        simp [L69_0, a1, a2, idxOk, hx, hy, Ins.v, hc, hh])
      (by simp [L69_0]) (by simp) (by simp)
    simp only [Int.natCast_zero] at hL
    cases hq : eqF Ins.same l k <;> rw [hq] at hL <;> simp at hL <;> simp [e, hL]
  · have e : ((l.length : Int) != (k.length : Int)) = true := by simp; omega
    have : eqF Ins.same l k = false := by
      cases hq : eqF Ins.same l k
      · rfl
      · exact absurd (eqF_len hq) h
    simp [e, this]

def Mth.same (m k : Mth) : Bool := m.n == k.n && (m.d == k.d && (m.s == k.s && (m.a == k.a && (m.st == k.st && (m.lo == k.lo && (eqF Ins.same m.code k.code && eqF Hnd.eq m.hs k.hs))))))
theorem Mth.same_refl (m : Mth) : m.same m = true := by simp [Mth.same, eqF_refl fun x _ => Ins.same_refl x, eqF_refl fun x _ => Hnd.eq_refl x]

set_option maxHeartbeats 4000000 in
theorem ev_sameMethod (m k : Mth) (hm : m.Wf) (M : Mem) : ev tab prim 47 [m.v, k.v] M = some (.bool (m.same k), M) := by
  have h1 := ev_EqInss m.code k.code hm.code (fun x _ y _ M => ev_Same x y M) ([] :: M)
  have h2 := ev_EqHnds m.hs k.hs hm.hs [[], []]
  unfold Mth.v Mth.cells Mth.same
  rw [ev_fn' tab prim (f := 47) rfl _ _ rfl]
  generalize eqF Ins.same m.code k.code = e1 at *
  generalize eqF Hnd.eq m.hs k.hs = e2 at *
  cases b1 : m.n == k.n
  · simp [b1]
  cases b2 : m.d == k.d
  · simp [b1, b2]
  cases b3 : m.s == k.s
  · simp [b1, b2, b3]
  cases b4 : m.a == k.a
  · simp [b1, b2, b3, b4]
  cases b5 : m.st == k.st
  · simp [b1, b2, b3, b4, b5]
  cases b6 : m.lo == k.lo
  · simp [b1, b2, b3, b4, b5, b6]
  cases e1
  · simp [b1, b2, b3, b4, b5, b6, h1]
  simp [b1, b2, b3, b4, b5, b6, h1, h2]

theorem ev_EqMths (l k : List Mth) (hl : l.length ≤ maxLen) (hp : ∀ x ∈ l, ∀ y ∈ k, ∀ M, ev tab prim 47 [Mth.v x, Mth.v y] M = some (.bool (Mth.same x y), M)) (M : Mem) : ev tab prim 46 [.list 8 (l.map Mth.v) false, .list 8 (k.map Mth.v) false, .func (.func 47) [] []] M = some (.bool (eqF Mth.same l k), M) := by
  rw [ev_fn' tab prim (f := 46) rfl _ _ rfl]
  by_cases h : l.length = k.length
  · have e : ((l.length : Int) != (k.length : Int)) = false := by simp [h]
    have hL := loop_eq Mth.same l k h (b := L46_0) (fun i => { env := [(1, .list 8 (k.map Mth.v) false), (2, .func (.func 47) [] []), (15, .list 8 (l.map Mth.v) false), (16, .int .i64 l.length), (17, .int .i64 i)], mem := [] :: M }) (.exit 0, { env := [], mem := [] :: M }) (.ret, { env := [(6, .bool false)], mem := [] :: M })
      (fun i hi hi' hh => by
        have a1 : (i : Int) < (l.length : Int) := by omega
        have a2 : (i : Int) < (k.length : Int) := by omega
        have hw := wrap_succ hi hl
        have hx : (l.map Mth.v)[i]? = some (Mth.v l[i]) := by simp [hi]
        have hy : (k.map Mth.v)[i]? = some (Mth.v k[i]) := by simp [hi']
        have hc := hp l[i] (List.getElem_mem hi) k[i] (List.getElem_mem hi') ([] :: M)
        simp only [Mth.v, Mth.cells] at hc
        simp [L46_0, a1, a2, hw, idxOk, hx, hy, Mth.v, Mth.cells, hc, hh])
      (fun i hi hi' hh => by
        have a1 : (i : Int) < (l.length : Int) := by omega
        have a2 : (i : Int) < (k.length : Int) := by omega
        have hx : (l.map Mth.v)[i]? = some (Mth.v l[i]) := by simp [hi]
        have hy : (k.map Mth.v)[i]? = some (Mth.v k[i]) := by simp [hi']
        have hc := hp l[i] (List.getElem_mem hi) k[i] (List.getElem_mem hi') ([] :: M)
        simp only [Mth.v, Mth.cells] at hc
        simp [L46_0, a1, a2, idxOk, hx, hy, Mth.v, Mth.cells, hc, hh])
      (by simp [L46_0]) (by simp) (by simp)
    simp only [Int.natCast_zero] at hL
    cases hq : eqF Mth.same l k <;> rw [hq] at hL <;> simp at hL <;> simp [e, hL]
  · have e : ((l.length : Int) != (k.length : Int)) = true := by simp; omega
    have : eqF Mth.same l k = false := by
      cases hq : eqF Mth.same l k
      · rfl
      · exact absurd (eqF_len hq) h
    simp [e, this]


end Go.Proofs.Ytgmlanhhjmhmmaa.Ev
