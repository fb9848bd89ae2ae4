import Derived.Test.YtpajgenngpjbaaaGreatGm
import Derived.Test.YtpajgenngpjbaaaGreatGj
import Derived.Test.YtpajgenngpjbaaaGreatGh
/- Whether a method may be, as the document tells it: all of it. -/
namespace Go.Proofs.YtpajgenngpjbaaaGreat.Ev
open Go

/-! Whether a method may be, as the document tells it: its loops. -/
theorem limM_cases (m : Mth) : (m.st < 0 ∧ limM m = false) ∨ (¬ m.st < 0 ∧ 20 < m.st ∧ limM m = false) ∨ (¬ m.st < 0 ∧ ¬ 20 < m.st ∧ m.lo < 0 ∧ limM m = false) ∨ (¬ m.st < 0 ∧ ¬ 20 < m.st ∧ ¬ m.lo < 0 ∧ 20 < m.lo ∧ limM m = false) ∨
    (¬ m.st < 0 ∧ ¬ 20 < m.st ∧ ¬ m.lo < 0 ∧ ¬ 20 < m.lo ∧ 200 < (m.code.length : Int) ∧ limM m = false) ∨ (¬ m.st < 0 ∧ ¬ 20 < m.st ∧ ¬ m.lo < 0 ∧ ¬ 20 < m.lo ∧ ¬ 200 < (m.code.length : Int) ∧ 20 < (m.hs.length : Int) ∧ limM m = false) ∨
    (¬ m.st < 0 ∧ ¬ 20 < m.st ∧ ¬ m.lo < 0 ∧ ¬ 20 < m.lo ∧ ¬ 200 < (m.code.length : Int) ∧ ¬ 20 < (m.hs.length : Int) ∧ limM m = true) := by
  have h : limM m = decide (0 ≤ m.st ∧ m.st ≤ 20 ∧ 0 ≤ m.lo ∧ m.lo ≤ 20 ∧ (m.code.length : Int) ≤ 200 ∧ (m.hs.length : Int) ≤ 20) := by
    rw [Bool.eq_iff_iff]; simp [limM, and_assoc]
  rw [h]
  simp only [decide_eq_true_eq, decide_eq_false_iff_not]
  omega

end Go.Proofs.YtpajgenngpjbaaaGreat.Ev

/- The pool, and whether a class may be, as the document tells it. -/
namespace Go.Proofs.YtpajgenngpjbaaaGreat.Ev
open Go

/-! Whether a class may be, as the program tells it. -/
/-- Why a class may not be. -/
def Cls.err (c : Cls) : Int :=
  bif !(nameOk c.n && ((c.s == []) || nameOk c.s)) || c.im.any (fun s => !nameOk s) then 6
  else bif decide (30 < (c.im.length : Int)) || (decide (20 < (c.fs.length : Int)) || decide (20 < (c.ms.length : Int))) then 5
  else bif c.fs.any (fun f => !(nameOk f.n && typeOk f.d)) then 6
  else bif firstE errM c.ms == 0 then (bif decide (500 < (c.pool.length : Int)) then 5 else 0) else firstE errM c.ms

theorem ev_notName (s : Tx) (hs : s.length ≤ 1000000) (m : Mem) : ev tab prim 76 [.str s] m = some (.bool (!nameOk s), m) := by
  have h := ev74 s hs
  rw [ev_fn' tab prim (f := 76) rfl _ _ rfl]
  simp [h]

def findI (p : Tx → Bool) : Nat → List Tx → Option Nat
  | _, [] => none
  | k, x :: r => bif p x then some k else findI p (k + 1) r
theorem findI_any (p : Tx → Bool) : ∀ (l : List Tx) (k : Nat), (findI p k l).isSome = l.any p
  | [], k => rfl
  | x :: r, k => by
    rw [findI, List.any_cons]
    cases h : p x
    · simpa using findI_any p r (k + 1)
    · simp

theorem ixLoop (l : List Tx) (hl : l.length ≤ maxLen) (hx : ∀ x ∈ l, x.length ≤ 1000000) (m : Mem) : ∀ (k i : Nat), i + k = l.length →
    cv tab prim (.loop L100_0) { env := [(0, .list 1 (l.map V.str) false), (1, .func (.func 76) [] []), (7, .int .i64 l.length), (8, .int .i64 (i : Int))], mem := [] :: m } =
      some (match findI (fun s => !nameOk s) i (l.drop i) with | some p => (.ret, { env := [(4, .int .i64 (p : Int))], mem := [] :: m }) | none => (.exit 0, { env := [], mem := [] :: m })) := by
  intro k
  induction k with
  | zero =>
    intro i hi
    rw [cv_loop', List.drop_eq_nil_of_le (by omega)]
    have h1 : ¬ (i : Int) < (l.length : Int) := by omega
    simp [L100_0, h1, findI]
  | succ k ih =>
    intro i hi
    have hlt : i < l.length := by omega
    have h1 : (i : Int) < (l.length : Int) := by omega
    have hw := wrap_succ hlt hl
    have hx' : (l.map V.str)[i]? = some (.str l[i]) := by simp [hlt]
    have hN := ev_notName l[i] (hx _ (List.getElem_mem hlt)) ([] :: m)
    have := ih (i + 1) (by omega)
    rw [cv_loop', List.drop_eq_getElem_cons hlt, findI]
    cases h : nameOk l[i] <;> rw [h] at hN
    · simp [L100_0, h1, idxOk, hx', hN]
    · simp only [Bool.not_true, cond_false]
      rw [← this]
      simp [L100_0, h1, idxOk, hx', hw, hN]

theorem ev_badNames (l : List Tx) (hl : l.length ≤ maxLen) (hx : ∀ x ∈ l, x.length ≤ 1000000) (m : Mem) (o : Bool) :
    ev tab prim 75 [.list 1 (l.map V.str) o, .func (.func 76) [] []] m = some (.bool (l.any fun s => !nameOk s), m) := by
  have h : ev tab prim 100 [.list 1 (l.map V.str) false, .func (.func 76) [] []] ([] :: m) = some (.int .i64 (posI (findI (fun s => !nameOk s) 0 l)), [] :: m) := by
    have h := ixLoop l hl hx ([] :: m) l.length 0 (by omega)
    rw [List.drop_zero] at h
    rw [ev_fn' tab prim (f := 100) rfl _ _ rfl]
    simp only [Int.natCast_zero] at h
    cases hp : findI (fun s => !nameOk s) 0 l <;> rw [hp] at h <;> simp at h <;> simp [h, posI]
  have hs := findI_any (fun s => !nameOk s) l 0
  rw [ev_fn' tab prim (f := 75) rfl _ _ rfl]
  rw [← hs]
  cases hp : findI (fun s => !nameOk s) 0 l <;> rw [hp] at h <;> simp [h, posI]

def ckSt (e : Int) : St := { env := [(2, .int .i64 e)], mem := [[], [], []] }

theorem ckLoop0 (c : Cls) (hc : c.Wf) (hs : c.Small) : cv tab prim (.loop L38_0) { env := [(1, .cptr c.cells), (2, .int .i64 6), (44, .list 3 (c.fs.map Fld.v) false), (45, .int .i64 c.fs.length), (46, .int .i64 0)], mem := [[], [], []] } =
    some (if ∀ i, i < c.fs.length → (fun i => (c.fs[i]?).all fun f => nameOk f.n && typeOk f.d) i = true then (.exit 0, { env := [(1, .cptr c.cells)], mem := [[], [], []] }) else (.goto 0, ckSt 6)) := by
  refine loop_find (fun i => { env := [(1, .cptr c.cells), (2, .int .i64 6), (44, .list 3 (c.fs.map Fld.v) false), (45, .int .i64 c.fs.length), (46, .int .i64 i)], mem := [[], [], []] }) c.fs.length _ _ _ (fun i hi hp => ?_) (fun i hi hp => ?_) ?_ (by simp) (by simp)
  · have a1 : (i : Int) < (c.fs.length : Int) := by omega
    have hw := wrap_succ hi hc.fs
    have hx : (c.fs.map Fld.v)[i]? = some (Fld.v c.fs[i]) := by simp [hi]
    obtain ⟨b1, b2⟩ := hs.fss _ (List.getElem_mem hi)
    have h1 := ev74 c.fs[i].n (by omega)
    have h2 := ev77 c.fs[i].d (by omega)
    have hp' : nameOk c.fs[i].n = true ∧ typeOk c.fs[i].d = true := by simpa [hi] using hp
    rw [hp'.1] at h1
    rw [hp'.2] at h2
    simp [L38_0, a1, hw, idxOk, hx, Fld.v, h1, h2]
  · have a1 : (i : Int) < (c.fs.length : Int) := by omega
    have hw := wrap_succ hi hc.fs
    have hx : (c.fs.map Fld.v)[i]? = some (Fld.v c.fs[i]) := by simp [hi]
    obtain ⟨b1, b2⟩ := hs.fss _ (List.getElem_mem hi)
    have h1 := ev74 c.fs[i].n (by omega)
    have h2 := ev77 c.fs[i].d (by omega)
    have hp' : (nameOk c.fs[i].n && typeOk c.fs[i].d) = false := by simpa [hi] using hp
    cases e1 : nameOk c.fs[i].n
    · rw [e1] at h1
      simp [L38_0, ckSt, a1, hw, idxOk, hx, Fld.v, h1]
    · rw [e1, Bool.true_and] at hp'
      rw [e1] at h1
      rw [hp'] at h2
      simp [L38_0, ckSt, a1, hw, idxOk, hx, Fld.v, h1, h2]
  · simp [L38_0]

theorem ckLoop1 (c : Cls) (hc : c.Wf) (hs : c.Small) : cv tab prim (.loop L38_1) { env := [(1, .cptr c.cells), (62, .list 8 (c.ms.map Mth.v) false), (63, .int .i64 c.ms.length), (64, .int .i64 0)], mem := [[], [], []] } =
    some (bif firstE errM c.ms == 0 then (.exit 2, { env := [(1, .cptr c.cells)], mem := [[], [], []] }) else (.goto 0, ckSt (firstE errM c.ms))) := by
  refine loop_first errM c.ms (fun i => { env := [(1, .cptr c.cells), (62, .list 8 (c.ms.map Mth.v) false), (63, .int .i64 c.ms.length), (64, .int .i64 i)], mem := [[], [], []] }) _ (fun e => (.goto 0, ckSt e)) (fun i hi hz => ?_) (fun i hi hz => ?_) ?_ (by simp) (by simp)
  · have a1 : (i : Int) < (c.ms.length : Int) := by omega
    have hw := wrap_succ hi hc.ms
    have hx : (c.ms.map Mth.v)[i]? = some (Mth.v c.ms[i]) := by simp [hi]
    have hC := ev_method c.ms[i] (hc.mss _ (List.getElem_mem hi)) (hs.mss _ (List.getElem_mem hi))
    rw [hz] at hC
    simp only [Mth.v, Mth.cells] at hC
    simp [L38_1, a1, hw, idxOk, hx, Mth.v, Mth.cells, hC]
  · have a1 : (i : Int) < (c.ms.length : Int) := by omega
    have hx : (c.ms.map Mth.v)[i]? = some (Mth.v c.ms[i]) := by simp [hi]
    have hC := ev_method c.ms[i] (hc.mss _ (List.getElem_mem hi)) (hs.mss _ (List.getElem_mem hi))
    generalize errM c.ms[i] = e at hz hC ⊢
    have hz' : (e == 0) = false := by simp [hz]
    simp only [Mth.v, Mth.cells] at hC
    simp [L38_1, ckSt, a1, idxOk, hx, Mth.v, Mth.cells, hC, hz', bne]
  · simp [L38_1]

theorem findKCk : findL S38_0 0 = some (.seq .skip K38_0) := by rfl

theorem all_fs (c : Cls) : (∀ i, i < c.fs.length → (fun i => (c.fs[i]?).all fun f => nameOk f.n && typeOk f.d) i = true) ↔ (c.fs.any fun f => !(nameOk f.n && typeOk f.d)) = false := by
  rw [List.any_eq_false]
  constructor
  · intro h f hf
    obtain ⟨i, hi, rfl⟩ := List.mem_iff_getElem.1 hf
    have := h i hi
    simpa [hi] using this
  · intro h i hi
    have := h _ (List.getElem_mem hi)
    simpa [hi] using this

set_option maxHeartbeats 16000000 in
theorem ckScope (c : Cls) (hc : c.Wf) (hs : c.Small) : ∃ x, (x = .ret ∨ x = .goto 0) ∧ cv tab prim S38_0 { env := [(1, .cptr c.cells)], mem := [[], [], []] } = some (x, ckSt c.err) := by
  have h1 := ev74 c.n (by have := hs.n; omega)
  have h2 := ev74 c.s (by have := hs.s; omega)
  have h3 := ev_badNames c.im hc.im (fun x hx => by have := hs.ims x hx; omega) [[], [], []] false
  have hP := ev_Pool c hc (by have := hs.tx; omega)
  have l0 := ckLoop0 c hc hs
  have l1 := ckLoop1 c hc hs
  have hf := all_fs c
  unfold Cls.err
  unfold S38_0
  unfold Cls.v at hP
  unfold Cls.cells at *
  generalize nameOk c.n = o1 at *
  generalize nameOk c.s = o2 at *
  generalize (c.im.any fun s => !nameOk s) = o3 at *
  cases o1
  · exact ⟨_, .inr rfl, by simp [h1, ckSt]⟩
  have hp2 : (c.s == []) = true ∨ ((c.s == []) = false ∧ o2 = true) ∨ ((c.s == []) = false ∧ o2 = false) := by cases (c.s == []) <;> cases o2 <;> simp
  rcases hp2 with e | ⟨e, rfl⟩ | ⟨e, rfl⟩
  rotate_left 2
  · exact ⟨_, .inr rfl, by simp [h1, h2, e, ckSt]⟩
  all_goals
    cases o3
    rotate_left
    · exact ⟨_, .inr rfl, by simp [h1, h2, h3, e, ckSt]⟩
    by_cases q1 : 30 < (c.im.length : Int)
    · exact ⟨_, .inr rfl, by simp [h1, h2, h3, e, q1, ckSt]⟩
    by_cases q2 : 20 < (c.fs.length : Int)
    · exact ⟨_, .inr rfl, by simp [h1, h2, h3, e, q1, q2, ckSt]⟩
    by_cases q3 : 20 < (c.ms.length : Int)
    · exact ⟨_, .inr rfl, by simp [h1, h2, h3, e, q1, q2, q3, ckSt]⟩
    cases o4 : (c.fs.any fun f => !(nameOk f.n && typeOk f.d))
    rotate_left
    · rw [if_neg (by rw [hf, o4]; simp)] at l0
      exact ⟨_, .inr rfl, by simp [h1, h2, h3, e, q1, q2, q3, l0, ckSt, o4]⟩
    rw [if_pos (by rw [hf, o4])] at l0
    cases o5 : firstE errM c.ms == 0
    · rw [o5] at l1
      exact ⟨_, .inr rfl, by simp [h1, h2, h3, e, q1, q2, q3, l0, l1, ckSt, o4]⟩
    rw [o5] at l1
    by_cases q4 : 500 < (c.pool.length : Int)
    · exact ⟨_, .inl rfl, by simp [h1, h2, h3, e, q1, q2, q3, q4, l0, l1, ckSt, o4, hP, K38_0]⟩
    · exact ⟨_, .inl rfl, by simp [h1, h2, h3, e, q1, q2, q3, q4, l0, l1, ckSt, o4, hP, K38_0]⟩

theorem ev_Check (c : Cls) (hc : c.Wf) (hs : c.Small) : ev tab prim 38 [c.v] [[], []] = some (.int .i64 c.err, [[], []]) := by
  obtain ⟨x, hx, h⟩ := ckScope c hc hs
  unfold Cls.v
  rw [ev_fn' tab prim (f := 38) rfl _ _ rfl]
  rcases hx with rfl | rfl
  · simp [h, ckSt]
  · have e : cj tab prim S38_0 (some (.goto 0, ckSt c.err)) = some (.ret, ckSt c.err) := by
      rw [cj_g tab prim S38_0 _ 0 findKCk, cv_seq', cv_skip, seqK_n]
      simp [K38_0, ckSt]
    simp only [ckSt] at h e
    simp [h, e]

/-! The pool, and whether a class may be, as the document tells it. -/
def oL (a : List Tx) : V := .list 1 (a.map V.str) true

theorem all_im (c : Cls) : (∀ i, i < c.im.length → (fun i => (c.im[i]?).all fun s => nameOk s) i = true) ↔ (c.im.any fun s => !nameOk s) = false := by
  rw [List.any_eq_false]
  constructor
  · intro h f hf
    obtain ⟨i, hi, rfl⟩ := List.mem_iff_getElem.1 hf
    have := h i hi
    simpa [hi] using this
  · intro h i hi
    have := h _ (List.getElem_mem hi)
    simpa [hi] using this

end Go.Proofs.YtpajgenngpjbaaaGreat.Ev
