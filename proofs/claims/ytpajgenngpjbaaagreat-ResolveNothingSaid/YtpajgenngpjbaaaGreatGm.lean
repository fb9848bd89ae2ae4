import Derived.Test.YtpajgenngpjbaaaGreatGj
/- Whether a method may be: its parts. -/
namespace Go.Proofs.YtpajgenngpjbaaaGreat.Ev
open Go

def mps (d : List UInt8) : List Tx := if methOk d = true then (prm 8 (cut 40 d).1).1 else []
def mres (d : List UInt8) : Tx := if methOk d = true then (cut 41 (prm 8 (cut 40 d).1).2).1 else []
theorem methV_eq (d : List UInt8) : methV d = .tup [.list 1 ((mps d).map V.str) true, .str (mres d), .int .i64 (if methOk d = true then 0 else 6)] := by
  unfold methV mps mres
  change (if methOk d = true then _ else _) = _
  split <;> rfl

/-- May a method's texts be? -/
def nmdM (m : Mth) : Bool := (methOk m.d && mnameOk m.n) && (bif m.n == clinitN then m.s && m.d == [40, 41, 86] else bif m.n == initN then !m.s && (!m.a && mres m.d == [86]) else true)

set_option maxHeartbeats 16000000 in
theorem ev_namedM (m : Mth) (hm : m.Small) : ev tab prim 117 [m.v] [[], []] = some (.bool (nmdM m), [[], []]) := by
  have hM := ev148 m.d (by have := hm.d; omega)
  rw [methV_eq] at hM
  have hN := ev149 m.n (by have := hm.n; omega)
  unfold Mth.v Mth.cells nmdM clinitN initN
  rw [ev_fn' tab prim (f := 117) rfl _ _ rfl]
  have hk : methOk m.d = true ∨ methOk m.d = false := by cases methOk m.d <;> simp
  generalize mnameOk m.n = nn at *
  rcases hk with h | h <;> rw [h] at hM
  · cases nn
    · simp [hM, hN, h]
    · cases e1 : m.n == [60, 99, 108, 105, 110, 105, 116, 62]
      · cases e2 : m.n == [60, 105, 110, 105, 116, 62]
        · simp [hM, hN, h, e1, e2]
        · cases e3 : m.s
          · cases e4 : m.a <;> simp [hM, hN, h, e1, e2]
          · simp [hM, hN, h, e1, e2]
      · cases e3 : m.s <;> simp [hM, hN, h, e1]
  · simp [hM, h]

def limM (m : Mth) : Bool := (decide (0 ≤ m.st) && decide (m.st ≤ 20)) && ((decide (0 ≤ m.lo) && decide (m.lo ≤ 20)) && (decide ((m.code.length : Int) ≤ 200) && decide ((m.hs.length : Int) ≤ 20)))

theorem ev_withinC (n lo hi : Int) : ev tab prim 150 [.int .i64 n, .int .i64 lo, .int .i64 hi] [[], []] = some (.bool (decide (lo ≤ n) && decide (n ≤ hi)), [[], []]) := by
  rw [ev_fn' tab prim (f := 150) rfl _ _ rfl]
  by_cases h1 : lo ≤ n <;> simp [h1]

set_option maxHeartbeats 4000000 in
theorem ev_limited (m : Mth) : ev tab prim 118 [m.v] [[], []] = some (.bool (limM m), [[], []]) := by
  have h1 := ev_withinC m.st 0 20
  have h2 := ev_withinC m.lo 0 20
  unfold Mth.v Mth.cells limM
  rw [ev_fn' tab prim (f := 118) rfl _ _ rfl]
  generalize (decide (0 ≤ m.st) && decide (m.st ≤ 20)) = b1 at *
  generalize (decide (0 ≤ m.lo) && decide (m.lo ≤ 20)) = b2 at *
  cases b1
  · simp [h1]
  cases b2
  · simp [h1, h2]
  by_cases h3 : (m.code.length : Int) ≤ 200 <;> simp [h1, h2, h3]

def leastM (m : Mth) : Int := (mps m.d).length + (bif m.s then 0 else 1)
theorem mps_len (d : List UInt8) : (mps d).length ≤ 8 := by
  unfold mps; split
  · exact prm_few 8 _
  · simp

theorem ev_Least (m : Mth) (hm : m.Small) : ev tab prim 119 [m.v] [[], []] = some (.int .i64 (leastM m), [[], []]) := by
  have hM := ev148 m.d (by have := hm.d; omega)
  rw [methV_eq] at hM
  have hW := ev151 ((mps m.d).map V.str) false
  rw [List.length_map] at hW
  have hl := mps_len m.d
  have hw : IntKind.i64.wrap (((mps m.d).length : Int) + 1) = ((mps m.d).length : Int) + 1 := wrap_small (by omega) (by omega)
  unfold Mth.v Mth.cells leastM
  rw [ev_fn' tab prim (f := 119) rfl _ _ rfl]
  cases e : m.s <;> simp [hM, hW, hw]

/-- Why a handler may not be. -/
def hdl (h : Hnd) (len : Int) : Int :=
  bif decide (h.f < 0) || (decide (h.t ≤ h.f) || (decide (len < h.t) || !(decide (0 ≤ h.a) && decide (h.a ≤ len - 1)))) then 4 else bif !(h.c == []) && !nameOk h.c then 6 else 0

set_option maxHeartbeats 8000000 in
theorem ev_handler (h : Hnd) (len : Int) (hl : 0 ≤ len ∧ len ≤ 65535) (hc : h.c.length ≤ 65535) : ev tab prim 121 [h.v, .int .i64 len] [[], []] = some (.int .i64 (hdl h len), [[], []]) := by
  have hw : IntKind.i64.wrap (len - 1) = len - 1 := wrap_small (by omega) (by omega)
  have h1 := ev_withinC h.a 0 (len - 1)
  have hN := ev74 h.c (by omega)
  unfold Hnd.v hdl
  rw [ev_fn' tab prim (f := 121) rfl _ _ rfl]
  generalize (decide (0 ≤ h.a) && decide (h.a ≤ len - 1)) = b at *
  generalize nameOk h.c = nc at *
  by_cases p1 : h.f < 0
  · simp [p1]
  by_cases p2 : h.t ≤ h.f
  · simp [p1, p2]
  by_cases p3 : len < h.t
  · simp [p1, p2, p3]
  cases b
  · simp [p1, p2, p3, hw, h1]
  cases e : h.c == []
  · cases nc <;> simp [p1, p2, p3, hw, h1, e, hN]
  · simp [p1, p2, p3, hw, h1, e]

end Go.Proofs.YtpajgenngpjbaaaGreat.Ev

/- Whether a method may be: all of it. -/
namespace Go.Proofs.YtpajgenngpjbaaaGreat.Ev
open Go

/-! Whether a method may be. -/
/-- The first that is not 0. -/
def firstE {α : Type} (f : α → Int) : List α → Int
  | [] => 0
  | x :: r => bif f x == 0 then firstE f r else f x

theorem loop_first {α : Type} (f : α → Int) (l : List α) {b : ACode} (st : Nat → St) (out : AExit × St) (bad : Int → AExit × St)
    (h1 : ∀ i (h : i < l.length), f l[i] = 0 → cv tab prim b (st i) = some (.normal, st (i + 1)))
    (h2 : ∀ i (h : i < l.length), f l[i] ≠ 0 → cv tab prim b (st i) = some (bad (f l[i])))
    (h3 : cv tab prim b (st l.length) = some out) (ho : out.1 ≠ .normal) (hb : ∀ e, (bad e).1 ≠ .normal) :
    cv tab prim (.loop b) (st 0) = some (bif firstE f l == 0 then out else bad (firstE f l)) := by
  have go : ∀ k i, i + k = l.length → cv tab prim (.loop b) (st i) = some (bif firstE f (l.drop i) == 0 then out else bad (firstE f (l.drop i))) := by
    intro k
    induction k with
    | zero =>
      intro i hi
      obtain rfl : i = l.length := by omega
      rw [cv_loop', h3, List.drop_length]
      obtain ⟨oe, os⟩ := out
      cases oe <;> first | rfl | exact absurd rfl ho
    | succ k ih =>
      intro i hi
      have hlt : i < l.length := by omega
      rw [cv_loop', List.drop_eq_getElem_cons hlt, firstE]
      by_cases h : f l[i] = 0
      · have e : (f l[i] == 0) = true := by simp [h]
        rw [h1 i hlt h, roundK_n, e, cond_true]
        exact ih (i + 1) (by omega)
      · have e : (f l[i] == 0) = false := by simp [h]
        rw [h2 i hlt h, e, cond_false, e, cond_false]
        have := hb (f l[i])
        generalize bad (f l[i]) = q at this ⊢
        obtain ⟨be, bs⟩ := q
        cases be <;> first | rfl | exact absurd rfl this
  have := go l.length 0 (by omega)
  rwa [List.drop_zero] at this

def errC (m : Mth) : Int := firstE (fun x => chkI x m.code.length m.lo) m.code
def errH (m : Mth) : Int := firstE (fun h => hdl h m.code.length) m.hs
def retE (e : Int) : AExit × St := (.ret, { env := [(2, .int .i64 e)], mem := [[], [], []] })

theorem mcLoop0 (m : Mth) (hw : m.Wf) (hm : m.Small) : cv tab prim (.loop L78_0) { env := [(1, .cptr m.cells), (68, .list 6 (m.code.map Ins.v) false), (69, .int .i64 m.code.length), (70, .int .i64 0)], mem := [[], [], []] } =
    some (bif errC m == 0 then (.exit 1, { env := [(1, .cptr m.cells)], mem := [[], [], []] }) else retE (errC m)) := by
  refine loop_first (fun x => chkI x m.code.length m.lo) m.code (fun i => { env := [(1, .cptr m.cells), (68, .list 6 (m.code.map Ins.v) false), (69, .int .i64 m.code.length), (70, .int .i64 i)], mem := [[], [], []] }) _ retE (fun i hi hz => ?_) (fun i hi hz => ?_) ?_ (by simp) (by simp [retE])
  · have a1 : (i : Int) < (m.code.length : Int) := by omega
    have hs := wrap_succ hi hw.code
    have hx : (m.code.map Ins.v)[i]? = some (Ins.v m.code[i]) := by simp [hi]
    obtain ⟨b1, b2, b3⟩ := hm.ins _ (List.getElem_mem hi)
    have hC := ev_CheckI m.code[i] m.code.length m.lo b1 b2 b3
    rw [hz] at hC
    simp only [Ins.v] at hC
    simp [L78_0, Mth.cells, a1, hs, idxOk, hx, Ins.v, hC]
  · have a1 : (i : Int) < (m.code.length : Int) := by omega
    have hx : (m.code.map Ins.v)[i]? = some (Ins.v m.code[i]) := by simp [hi]
    obtain ⟨b1, b2, b3⟩ := hm.ins _ (List.getElem_mem hi)
    have hC := ev_CheckI m.code[i] m.code.length m.lo b1 b2 b3
    generalize chkI m.code[i] m.code.length m.lo = e at hz hC ⊢
    have hz' : (e == 0) = false := by simp [hz]
    simp only [Ins.v] at hC
    simp [L78_0, retE, Mth.cells, a1, idxOk, hx, Ins.v, hC, hz', bne]
  · simp [L78_0]

theorem mcLoop1 (m : Mth) (hw : m.Wf) (hm : m.Small) : cv tab prim (.loop L78_1) { env := [(1, .cptr m.cells), (86, .list 4 (m.hs.map Hnd.v) false), (87, .int .i64 m.hs.length), (88, .int .i64 0)], mem := [[], [], []] } =
    some (bif errH m == 0 then (.exit 3, { env := [], mem := [[], [], []] }) else retE (errH m)) := by
  refine loop_first (fun h => hdl h m.code.length) m.hs (fun i => { env := [(1, .cptr m.cells), (86, .list 4 (m.hs.map Hnd.v) false), (87, .int .i64 m.hs.length), (88, .int .i64 i)], mem := [[], [], []] }) _ retE (fun i hi hz => ?_) (fun i hi hz => ?_) ?_ (by simp) (by simp [retE])
  · have a1 : (i : Int) < (m.hs.length : Int) := by omega
    have hs := wrap_succ hi hw.hs
    have hx : (m.hs.map Hnd.v)[i]? = some (Hnd.v m.hs[i]) := by simp [hi]
    have hC := ev_handler m.hs[i] m.code.length (by have := hm.code; omega) (hm.hnd _ (List.getElem_mem hi))
    rw [hz] at hC
    simp only [Hnd.v] at hC
    simp [L78_1, Mth.cells, a1, hs, idxOk, hx, Hnd.v, hC]
  · have a1 : (i : Int) < (m.hs.length : Int) := by omega
    have hx : (m.hs.map Hnd.v)[i]? = some (Hnd.v m.hs[i]) := by simp [hi]
    have hC := ev_handler m.hs[i] m.code.length (by have := hm.code; omega) (hm.hnd _ (List.getElem_mem hi))
    generalize hdl m.hs[i] m.code.length = e at hz hC ⊢
    have hz' : (e == 0) = false := by simp [hz]
    simp only [Hnd.v] at hC
    simp [L78_1, retE, Mth.cells, a1, idxOk, hx, Hnd.v, hC, hz', bne]
  · simp [L78_1]

/-! Whether a method may be: all of it. -/
def bareM (m : Mth) : Bool := m.st == 0 && (m.lo == 0 && (((m.code.length : Int) == 0) && ((m.hs.length : Int) == 0)))
/-- Why a method may not be. -/
def errM (m : Mth) : Int :=
  bif !nmdM m then 6 else bif !limM m then 5 else bif (m.a && (m.s || !bareM m)) || (!m.a && (m.code.length : Int) == 0) then 7 else bif m.a then 0
  else bif decide (m.lo < leastM m) then 4 else bif errC m == 0 then errH m else errC m

set_option maxHeartbeats 64000000 in
theorem ev_method (m : Mth) (hw : m.Wf) (hm : m.Small) : ev tab prim 78 [m.v] [[], []] = some (.int .i64 (errM m), [[], []]) := by
  have h1 := ev_namedM m hm
  have h2 := ev_limited m
  have h3 := ev_Least m hm
  have l0 := mcLoop0 m hw hm
  have l1 := mcLoop1 m hw hm
  unfold errM bareM
  unfold Mth.v Mth.cells at h1 h2 h3 ⊢
  unfold Mth.cells retE at l0 l1
  rw [ev_fn' tab prim (f := 78) rfl _ _ rfl]
  generalize nmdM m = nm at *
  generalize limM m = lm at *
  generalize leastM m = ls at *
  generalize errC m = ec at *
  generalize errH m = eh at *
  generalize m.a = a at *
  generalize m.s = s at *
  have hb : (m.st == 0) = false ∨ ((m.st == 0) = true ∧ (m.lo == 0) = false) ∨ ((m.st == 0) = true ∧ (m.lo == 0) = true) := by
    cases (m.st == 0) <;> cases (m.lo == 0) <;> simp
  rcases hb with e1 | ⟨e1, e2⟩ | ⟨e1, e2⟩ <;> cases e3 : ((m.code.length : Int) == 0) <;> cases e4 : ((m.hs.length : Int) == 0)
  all_goals
    cases nm
    · simp [h1, *]
    cases lm
    · simp [h1, h2, *]
    cases a
    · by_cases hl : m.lo < ls
      · simp [h1, h2, h3, hl, *]
      · cases c0 : ec == 0
        · rw [c0] at l0
          simp [h1, h2, h3, hl, *]
        · rw [c0] at l0
          cases c1 : eh == 0
          · rw [c1] at l1
            simp [h1, h2, h3, hl, *]
          · rw [c1] at l1
            have : eh = 0 := by simpa using c1
            simp [h1, h2, h3, hl, *]
    · cases s <;> simp [h1, h2, h3, *]

end Go.Proofs.YtpajgenngpjbaaaGreat.Ev
