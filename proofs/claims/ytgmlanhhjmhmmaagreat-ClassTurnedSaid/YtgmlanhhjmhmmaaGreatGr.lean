/- The pool, and whether a class may be, as the document tells it. -/
import Derived.Test.YtgmlanhhjmhmmaaGreatGm
import Derived.Test.YtgmlanhhjmhmmaaGreatGh
import Derived.Test.YtgmlanhhjmhmmaaGreatGp
namespace Go.Proofs.YtgmlanhhjmhmmaaGreat.Ev
open Go

/-! Whether a class may be, as the program tells it. -/
/-- Why a class may not be. -/
def Cls.err (c : Cls) : Int :=
  bif !(nameOk c.n && ((c.s == []) || nameOk c.s)) || c.im.any (fun s => !nameOk s) then 6
  else bif decide (30 < (c.im.length : Int)) || (decide (20 < (c.fs.length : Int)) || decide (20 < (c.ms.length : Int))) then 5
  else bif c.fs.any (fun f => !(nameOk f.n && typeOk f.d)) then 6
  else bif firstE errM c.ms == 0 then (bif decide (500 < (c.pool.length : Int)) then 5 else 0) else firstE errM c.ms

theorem ev_notName (s : Tx) (hs : s.length ≤ 1000000) (m : Mem) : ev tab prim 54 [.str s] m = some (.bool (!nameOk s), m) := by
  have h := ev52 s hs
  rw [ev_fn' tab prim (f := 54) rfl _ _ rfl]
  simp [h]

def findI (p : Tx → Bool) : Nat → List Tx → Option Nat
  | _, [] => none
  | k, x :: r => bif p x then some k else findI p (k + 1) r
theorem findI_any (p : Tx → Bool) : ∀ (l : List Tx) (k : Nat), (findI p k l).isSome = l.any p
  | [], k => rfl
  | x :: r, k => by
    rw [findI, List.any_cons]
    cases h : p x
    · simpa using findI_any p r (k + 1)
    · simp

theorem ixLoop (l : List Tx) (hl : l.length ≤ maxLen) (hx : ∀ x ∈ l, x.length ≤ 1000000) (m : Mem) : ∀ (k i : Nat), i + k = l.length →
    cv tab prim (.loop L81_0) { env := [(0, .list 1 (l.map V.str) false), (1, .func (.func 54) [] []), (7, .int .i64 l.length), (8, .int .i64 (i : Int))], mem := [] :: m } =
      some (match findI (fun s => !nameOk s) i (l.drop i) with | some p => (.ret, { env := [(4, .int .i64 (p : Int))], mem := [] :: m }) | none => (.exit 0, { env := [], mem := [] :: m })) := by
  intro k
  induction k with
  | zero =>
    intro i hi
    rw [cv_loop', List.drop_eq_nil_of_le (by omega)]
    have h1 : ¬ (i : Int) < (l.length : Int) := by omega
    simp [L81_0, h1, findI]
  | succ k ih =>
    intro i hi
    have hlt : i < l.length := by omega
    have h1 : (i : Int) < (l.length : Int) := by omega
    have hw := wrap_succ hlt hl
    have hx' : (l.map V.str)[i]? = some (.str l[i]) := by simp [hlt]
    have hN := ev_notName l[i] (hx _ (List.getElem_mem hlt)) ([] :: m)
    have := ih (i + 1) (by omega)
    rw [cv_loop', List.drop_eq_getElem_cons hlt, findI]
    cases h : nameOk l[i] <;> rw [h] at hN
    · simp [L81_0, h1, idxOk, hx', hN]
    · simp only [Bool.not_true, cond_false]
      rw [← this]
      simp [L81_0, h1, idxOk, hx', hw, hN]

theorem ev_badNames (l : List Tx) (hl : l.length ≤ maxLen) (hx : ∀ x ∈ l, x.length ≤ 1000000) (m : Mem) (o : Bool) :
    ev tab prim 53 [.list 1 (l.map V.str) o, .func (.func 54) [] []] m = some (.bool (l.any fun s => !nameOk s), m) := by
  have h : ev tab prim 81 [.list 1 (l.map V.str) false, .func (.func 54) [] []] ([] :: m) = some (.int .i64 (posI (findI (fun s => !nameOk s) 0 l)), [] :: m) := by
    have h := ixLoop l hl hx ([] :: m) l.length 0 (by omega)
    rw [List.drop_zero] at h
    rw [ev_fn' tab prim (f := 81) rfl _ _ rfl]
    simp only [Int.natCast_zero] at h
    cases hp : findI (fun s => !nameOk s) 0 l <;> rw [hp] at h <;> simp at h <;> simp [h, posI]
  have hs := findI_any (fun s => !nameOk s) l 0
  rw [ev_fn' tab prim (f := 53) rfl _ _ rfl]
  rw [← hs]
  cases hp : findI (fun s => !nameOk s) 0 l <;> rw [hp] at h <;> simp [h, posI]

def ckSt (e : Int) : St := { env := [(2, .int .i64 e)], mem := [[], [], []] }

theorem ckLoop0 (c : Cls) (hc : c.Wf) (hs : c.Small) : cv tab prim (.loop L22_0) { env := [(1, .cptr c.cells), (2, .int .i64 6), (44, .list 3 (c.fs.map Fld.v) false), (45, .int .i64 c.fs.length), (46, .int .i64 0)], mem := [[], [], []] } =
    some (if ∀ i, i < c.fs.length → (fun i => (c.fs[i]?).all fun f => nameOk f.n && typeOk f.d) i = true then (.exit 0, { env := [(1, .cptr c.cells)], mem := [[], [], []] }) else (.goto 0, ckSt 6)) := by
  refine loop_find (fun i => { env := [(1, .cptr c.cells), (2, .int .i64 6), (44, .list 3 (c.fs.map Fld.v) false), (45, .int .i64 c.fs.length), (46, .int .i64 i)], mem := [[], [], []] }) c.fs.length _ _ _ (fun i hi hp => ?_) (fun i hi hp => ?_) ?_ (by simp) (by simp)
  · have a1 : (i : Int) < (c.fs.length : Int) := by omega
    have hw := wrap_succ hi hc.fs
    have hx : (c.fs.map Fld.v)[i]? = some (Fld.v c.fs[i]) := by simp [hi]
    obtain ⟨b1, b2⟩ := hs.fss _ (List.getElem_mem hi)
    have h1 := ev52 c.fs[i].n (by omega)
    have h2 := ev55 c.fs[i].d (by omega)
    have hp' : nameOk c.fs[i].n = true ∧ typeOk c.fs[i].d = true := by simpa [hi] using hp
    rw [hp'.1] at h1
    rw [hp'.2] at h2
    simp [L22_0, a1, hw, idxOk, hx, Fld.v, h1, h2]
  · have a1 : (i : Int) < (c.fs.length : Int) := by omega
    have hw := wrap_succ hi hc.fs
    have hx : (c.fs.map Fld.v)[i]? = some (Fld.v c.fs[i]) := by simp [hi]
    obtain ⟨b1, b2⟩ := hs.fss _ (List.getElem_mem hi)
    have h1 := ev52 c.fs[i].n (by omega)
    have h2 := ev55 c.fs[i].d (by omega)
    have hp' : (nameOk c.fs[i].n && typeOk c.fs[i].d) = false := by simpa [hi] using hp
    cases e1 : nameOk c.fs[i].n
    · rw [e1] at h1
      simp [L22_0, ckSt, a1, hw, idxOk, hx, Fld.v, h1]
    · rw [e1, Bool.true_and] at hp'
      rw [e1] at h1
      rw [hp'] at h2
      simp [L22_0, ckSt, a1, hw, idxOk, hx, Fld.v, h1, h2]
  · simp [L22_0]

theorem ckLoop1 (c : Cls) (hc : c.Wf) (hs : c.Small) : cv tab prim (.loop L22_1) { env := [(1, .cptr c.cells), (62, .list 8 (c.ms.map Mth.v) false), (63, .int .i64 c.ms.length), (64, .int .i64 0)], mem := [[], [], []] } =
    some (bif firstE errM c.ms == 0 then (.exit 2, { env := [(1, .cptr c.cells)], mem := [[], [], []] }) else (.goto 0, ckSt (firstE errM c.ms))) := by
  refine loop_first errM c.ms (fun i => { env := [(1, .cptr c.cells), (62, .list 8 (c.ms.map Mth.v) false), (63, .int .i64 c.ms.length), (64, .int .i64 i)], mem := [[], [], []] }) _ (fun e => (.goto 0, ckSt e)) (fun i hi hz => ?_) (fun i hi hz => ?_) ?_ (by simp) (by simp)
  · have a1 : (i : Int) < (c.ms.length : Int) := by omega
    have hw := wrap_succ hi hc.ms
    have hx : (c.ms.map Mth.v)[i]? = some (Mth.v c.ms[i]) := by simp [hi]
    have hC := ev_method c.ms[i] (hc.mss _ (List.getElem_mem hi)) (hs.mss _ (List.getElem_mem hi))
    rw [hz] at hC
    simp only [Mth.v, Mth.cells] at hC
    simp [L22_1, a1, hw, idxOk, hx, Mth.v, Mth.cells, hC]
  · have a1 : (i : Int) < (c.ms.length : Int) := by omega
    have hx : (c.ms.map Mth.v)[i]? = some (Mth.v c.ms[i]) := by simp [hi]
    have hC := ev_method c.ms[i] (hc.mss _ (List.getElem_mem hi)) (hs.mss _ (List.getElem_mem hi))
    generalize errM c.ms[i] = e at hz hC ⊢
    have hz' : (e == 0) = false := by simp [hz]
    simp only [Mth.v, Mth.cells] at hC
    simp [L22_1, ckSt, a1, idxOk, hx, Mth.v, Mth.cells, hC, hz', bne]
  · simp [L22_1]

theorem findKCk : findL S22_0 0 = some (.seq .skip K22_0) := by rfl

theorem all_fs (c : Cls) : (∀ i, i < c.fs.length → (fun i => (c.fs[i]?).all fun f => nameOk f.n && typeOk f.d) i = true) ↔ (c.fs.any fun f => !(nameOk f.n && typeOk f.d)) = false := by
  rw [List.any_eq_false]
  constructor
  · intro h f hf
    obtain ⟨i, hi, rfl⟩ := List.mem_iff_getElem.1 hf
    have := h i hi
    simpa [hi] using this
  · intro h i hi
    have := h _ (List.getElem_mem hi)
    simpa [hi] using this

set_option maxHeartbeats 16000000 in
theorem ckScope (c : Cls) (hc : c.Wf) (hs : c.Small) : ∃ x, (x = .ret ∨ x = .goto 0) ∧ cv tab prim S22_0 { env := [(1, .cptr c.cells)], mem := [[], [], []] } = some (x, ckSt c.err) := by
  have h1 := ev52 c.n (by have := hs.n; omega)
  have h2 := ev52 c.s (by have := hs.s; omega)
  have h3 := ev_badNames c.im hc.im (fun x hx => by have := hs.ims x hx; omega) [[], [], []] false
  have hP := ev_Pool c hc (by have := hs.tx; omega)
  have l0 := ckLoop0 c hc hs
  have l1 := ckLoop1 c hc hs
  have hf := all_fs c
  unfold Cls.err
  unfold S22_0
  unfold Cls.v at hP
  unfold Cls.cells at *
  generalize nameOk c.n = o1 at *
  generalize nameOk c.s = o2 at *
  generalize (c.im.any fun s => !nameOk s) = o3 at *
  cases o1
  · exact ⟨_, .inr rfl, by simp [h1, ckSt]⟩
  have hp2 : (c.s == []) = true ∨ ((c.s == []) = false ∧ o2 = true) ∨ ((c.s == []) = false ∧ o2 = false) := by cases (c.s == []) <;> cases o2 <;> simp
  rcases hp2 with e | ⟨e, rfl⟩ | ⟨e, rfl⟩
  rotate_left 2
  · exact ⟨_, .inr rfl, by simp [h1, h2, e, ckSt]⟩
  all_goals
    cases o3
    rotate_left
    · exact ⟨_, .inr rfl, by simp [h1, h2, h3, e, ckSt]⟩
    by_cases q1 : 30 < (c.im.length : Int)
    · exact ⟨_, .inr rfl, by simp [h1, h2, h3, e, q1, ckSt]⟩
    by_cases q2 : 20 < (c.fs.length : Int)
    · exact ⟨_, .inr rfl, by simp [h1, h2, h3, e, q1, q2, ckSt]⟩
    by_cases q3 : 20 < (c.ms.length : Int)
    · exact ⟨_, .inr rfl, by simp [h1, h2, h3, e, q1, q2, q3, ckSt]⟩
    cases o4 : (c.fs.any fun f => !(nameOk f.n && typeOk f.d))
    rotate_left
    · rw [if_neg (by rw [hf, o4]; simp)] at l0
      exact ⟨_, .inr rfl, by simp [h1, h2, h3, e, q1, q2, q3, l0, ckSt, o4]⟩
    rw [if_pos (by rw [hf, o4])] at l0
    cases o5 : firstE errM c.ms == 0
    · rw [o5] at l1
      exact ⟨_, .inr rfl, by simp [h1, h2, h3, e, q1, q2, q3, l0, l1, ckSt, o4]⟩
    rw [o5] at l1
    by_cases q4 : 500 < (c.pool.length : Int)
    · exact ⟨_, .inl rfl, by simp [h1, h2, h3, e, q1, q2, q3, q4, l0, l1, ckSt, o4, hP, K22_0]⟩
    · exact ⟨_, .inl rfl, by simp [h1, h2, h3, e, q1, q2, q3, q4, l0, l1, ckSt, o4, hP, K22_0]⟩

theorem ev_Check (c : Cls) (hc : c.Wf) (hs : c.Small) : ev tab prim 22 [c.v] [[], []] = some (.int .i64 c.err, [[], []]) := by
  obtain ⟨x, hx, h⟩ := ckScope c hc hs
  unfold Cls.v
  rw [ev_fn' tab prim (f := 22) rfl _ _ rfl]
  rcases hx with rfl | rfl
  · simp [h, ckSt]
  · have e : cj tab prim S22_0 (some (.goto 0, ckSt c.err)) = some (.ret, ckSt c.err) := by
      rw [cj_g tab prim S22_0 _ 0 findKCk, cv_seq', cv_skip, seqK_n]
      simp [K22_0, ckSt]
    simp only [ckSt] at h e
    simp [h, e]

/-! The pool, and whether a class may be, as the document tells it. -/
theorem ev_checkMethod (m : Mth) (hw : m.Wf) (hm : m.Small) : ev tab prim 20 [m.v] [[], []] = some (.int .i64 (errM m), [[], []]) := by
  cases hb : nmdM m
  · rw [ev_checkMethod_bad m hm hb]; simp [errM, hb]
  · exact ev_checkMethod_ok m hw hm hb

def oL (a : List Tx) : V := .list 1 (a.map V.str) true

theorem rpLoop0 (c : Cls) (hc : c.Wf) (a : List Tx) (hn : a.length + (c.fs.flatMap fT).length ≤ 1000000) :
    cv tab prim (.loop L21_0) { env := [(1, .cptr c.cells), (3, oL a), (4, .int .i64 0)], mem := [[], [], []] } =
      some (.exit 0, { env := [(1, .cptr c.cells), (3, oL (a ++ c.fs.flatMap fT))], mem := [[], [], []] }) := by
  have h := loop_all (b := L21_0) (fun i => { env := [(1, .cptr c.cells), (3, oL (a ++ (c.fs.take i).flatMap fT)), (4, .int .i64 i)], mem := [[], [], []] }) c.fs.length (.exit 0, { env := [(1, .cptr c.cells), (3, oL (a ++ c.fs.flatMap fT))], mem := [[], [], []] }) (fun i hi => ?_) ?_ (by simp)
  · simpa using h
  · have a1 : (i : Int) < (c.fs.length : Int) := by omega
    have hw := wrap_succ hi hc.fs
    have hx : (c.fs.map Fld.v)[i]? = some (Fld.v c.fs[i]) := by simp [hi]
    have hle := flatMap_le fT c.fs i hi
    have hp : (a ++ (c.fs.take i).flatMap fT).length + 2 ≤ 1000000 := by rw [List.length_append]; simp [fT] at hle hn ⊢; omega
    rw [flatMap_take fT c.fs i hi, ← List.append_assoc]
    generalize a ++ (c.fs.take i).flatMap fT = b at hp ⊢
    have c1 : (b.length + 2) * 16 ≤ 140737488355328 := by omega
    have c2 : b.length + 2 ≤ 140737488355328 := by omega
    simp [L21_0, oL, Cls.cells, a1, hw, idxOk, hx, Fld.v, fT, c1, c2]
  · rw [List.take_length]; simp [L21_0, Cls.cells]

set_option maxHeartbeats 4000000 in
theorem rpLoop1 (c : Cls) (m : Mth) (hm : m.Wf) (j : Nat) (a : List Tx) (hn : a.length + (m.code.flatMap Ins.texts).length ≤ 1000000) :
    cv tab prim (.loop L21_1) { env := [(1, .cptr c.cells), (3, oL a), (5, .int .i64 j), (6, .cptr m.cells), (7, .int .i64 0)], mem := [[], [], []] } =
      some (.exit 4, { env := [(1, .cptr c.cells), (3, oL (a ++ m.code.flatMap Ins.texts)), (5, .int .i64 j), (6, .cptr m.cells)], mem := [[], [], []] }) := by
  have h := loop_all (b := L21_1) (fun i => { env := [(1, .cptr c.cells), (3, oL (a ++ (m.code.take i).flatMap Ins.texts)), (5, .int .i64 j), (6, .cptr m.cells), (7, .int .i64 i)], mem := [[], [], []] }) m.code.length (.exit 4, { env := [(1, .cptr c.cells), (3, oL (a ++ m.code.flatMap Ins.texts)), (5, .int .i64 j), (6, .cptr m.cells)], mem := [[], [], []] }) (fun i hi => ?_) ?_ (by simp)
  · simpa using h
  · have a1 : (i : Int) < (m.code.length : Int) := by omega
    have hw := wrap_succ hi hm.code
    have hx : (m.code.map Ins.v)[i]? = some (Ins.v m.code[i]) := by simp [hi]
    have hle := flatMap_le Ins.texts m.code i hi
    have hp : (a ++ (m.code.take i).flatMap Ins.texts).length + m.code[i].texts.length ≤ 1000000 := by rw [List.length_append]; omega
    rw [flatMap_take Ins.texts m.code i hi, ← List.append_assoc]
    generalize a ++ (m.code.take i).flatMap Ins.texts = b at hp ⊢
    generalize m.code[i] = x at hx hp ⊢
    have h40 := ev41 x.o
    rw [shapeOf_eq] at h40
    unfold Ins.texts at hp ⊢
    have c0 : b.length ≤ 1000000 := by omega
    have c1 : (b.length + 1) * 16 ≤ 140737488355328 := by omega
    have c2 : b.length + 1 ≤ 140737488355328 := by omega
    have c3 : (b.length + 1 + 1) * 16 ≤ 140737488355328 := by omega
    have c4 : b.length + 1 + 1 ≤ 140737488355328 := by omega
    have c5 : (b.length + 1 + 1 + 1) * 16 ≤ 140737488355328 := by omega
    have c6 : b.length + 1 + 1 + 1 ≤ 140737488355328 := by omega
    have c3' : (b.length + 2) * 16 ≤ 140737488355328 := by omega
    have c4' : b.length + 2 ≤ 140737488355328 := by omega
    have c5' : (b.length + 3) * 16 ≤ 140737488355328 := by omega
    have c6' : b.length + 3 ≤ 140737488355328 := by omega
    have c5'' : (b.length + (1 + 1) + 1) * 16 ≤ 140737488355328 := by omega
    have c6'' : b.length + (1 + 1) + 1 ≤ 140737488355328 := by omega
    generalize hr3 : rowB x.o 3 = r3 at *
    generalize hr4 : rowB x.o 4 = r4 at *
    generalize hr5 : rowB x.o 5 = r5 at *
    cases r3 <;> cases r4 <;> cases r5 <;>
      simp [L21_1, oL, Mth.cells, a1, hw, idxOk, hx, Ins.v, h40, c1, c2, c3, c4, c5, c6, c3', c4', c5', c6', c5'', c6'']
  · rw [List.take_length]; simp [L21_1, Mth.cells]

theorem rpLoop2 (c : Cls) (m : Mth) (hm : m.Wf) (j : Nat) (a : List Tx) (hn : a.length + m.hs.length ≤ 1000000) :
    cv tab prim (.loop L21_2) { env := [(1, .cptr c.cells), (3, oL a), (5, .int .i64 j), (6, .cptr m.cells), (11, .int .i64 0)], mem := [[], [], []] } =
      some (.exit 6, { env := [(1, .cptr c.cells), (3, oL (a ++ m.hs.map (·.c))), (5, .int .i64 j)], mem := [[], [], []] }) := by
  have h := loop_all (b := L21_2) (fun i => { env := [(1, .cptr c.cells), (3, oL (a ++ (m.hs.take i).map (·.c))), (5, .int .i64 j), (6, .cptr m.cells), (11, .int .i64 i)], mem := [[], [], []] }) m.hs.length (.exit 6, { env := [(1, .cptr c.cells), (3, oL (a ++ m.hs.map (·.c))), (5, .int .i64 j)], mem := [[], [], []] }) (fun i hi => ?_) ?_ (by simp)
  · simpa using h
  · have a1 : (i : Int) < (m.hs.length : Int) := by omega
    have hw := wrap_succ hi hm.hs
    have hx : (m.hs.map Hnd.v)[i]? = some (Hnd.v m.hs[i]) := by simp [hi]
    have hp : (a ++ (m.hs.take i).map (·.c)).length + 1 ≤ 1000000 := by rw [List.length_append, List.length_map, List.length_take]; omega
    rw [List.take_succ_eq_append_getElem hi, List.map_append, ← List.append_assoc]
    generalize a ++ (m.hs.take i).map (·.c) = b at hp ⊢
    have c1 : (b.length + 1) * 16 ≤ 140737488355328 := by omega
    have c2 : b.length + 1 ≤ 140737488355328 := by omega
    simp [L21_2, oL, Mth.cells, a1, hw, idxOk, hx, Hnd.v, c1, c2]
  · rw [List.take_length]; simp [L21_2, Mth.cells]

set_option maxHeartbeats 4000000 in
theorem rpLoop3 (c : Cls) (hc : c.Wf) (a : List Tx) (hn : a.length + (c.ms.flatMap mT).length ≤ 1000000) :
    cv tab prim (.loop L21_3) { env := [(1, .cptr c.cells), (3, oL a), (5, .int .i64 0)], mem := [[], [], []] } =
      some (.exit 2, { env := [(3, oL (a ++ c.ms.flatMap mT))], mem := [[], [], []] }) := by
  have h := loop_all (b := L21_3) (fun i => { env := [(1, .cptr c.cells), (3, oL (a ++ (c.ms.take i).flatMap mT)), (5, .int .i64 i)], mem := [[], [], []] }) c.ms.length (.exit 2, { env := [(3, oL (a ++ c.ms.flatMap mT))], mem := [[], [], []] }) (fun i hi => ?_) ?_ (by simp)
  · simpa using h
  · have a1 : (i : Int) < (c.ms.length : Int) := by omega
    have hw := wrap_succ hi hc.ms
    have hx : (c.ms.map Mth.v)[i]? = some (Mth.v c.ms[i]) := by simp [hi]
    have hm := hc.mss _ (List.getElem_mem hi)
    have hle := flatMap_le mT c.ms i hi
    have hp : (a ++ (c.ms.take i).flatMap mT).length + (mT c.ms[i]).length ≤ 1000000 := by rw [List.length_append]; omega
    rw [flatMap_take mT c.ms i hi, ← List.append_assoc]
    generalize a ++ (c.ms.take i).flatMap mT = b at hp ⊢
    generalize c.ms[i] = m at hx hm hp ⊢
    have hlen : (mT m).length = 2 + ((m.code.flatMap Ins.texts).length + m.hs.length) := by simp only [mT, List.length_append, List.length_map, List.length_cons, List.length_nil]
    have c1 : (b.length + 2) * 16 ≤ 140737488355328 := by omega
    have c2 : b.length + 2 ≤ 140737488355328 := by omega
    have h1 := rpLoop1 c m hm i (b ++ [m.n, m.d]) (by simp only [List.length_append, List.length_cons, List.length_nil]; omega)
    have h2 := rpLoop2 c m hm i (b ++ [m.n, m.d] ++ m.code.flatMap Ins.texts) (by simp only [List.length_append, List.length_cons, List.length_nil]; omega)
    rw [show b ++ mT m = b ++ [m.n, m.d] ++ m.code.flatMap Ins.texts ++ m.hs.map (·.c) from by simp [mT]]
    generalize b ++ [m.n, m.d] ++ m.code.flatMap Ins.texts ++ m.hs.map (·.c) = l3 at h2 ⊢
    generalize b ++ [m.n, m.d] ++ m.code.flatMap Ins.texts = l2 at h1 h2
    have e1 : oL (b ++ [m.n, m.d]) = .list 1 (b.map V.str ++ [.str m.n, .str m.d]) true := by simp [oL]
    rw [e1] at h1
    simp only [Mth.cells] at h1 h2
    simp only [Cls.cells] at h1 h2 ⊢
    rw [show oL b = .list 1 (b.map V.str) true from rfl]
    simp [L21_3, a1, hw, idxOk, hx, Mth.v, Mth.cells, c1, c2, h1, h2]
  · rw [List.take_length]; simp [L21_3, Cls.cells]

theorem rpLoop4 (l : List Tx) (hl : l.length ≤ 1000000) :
    cv tab prim (.loop L21_4) { env := [(3, oL l), (12, oL []), (13, .int .i64 0)], mem := [[], [], []] } =
      some (.exit 8, { env := [(12, oL (addL [] l))], mem := [[], [], []] }) := by
  have h := loop_all (b := L21_4) (fun i => { env := [(3, oL l), (12, oL (addL [] (l.take i))), (13, .int .i64 i)], mem := [[], [], []] }) l.length (.exit 8, { env := [(12, oL (addL [] l))], mem := [[], [], []] }) (fun i hi => ?_) ?_ (by simp)
  · simpa [addL] using h
  · have a1 : (i : Int) < (l.length : Int) := by omega
    have hw := wrap_succ hi (by unfold maxLen; omega)
    have hx : (l.map V.str)[i]? = some (.str l[i]) := by simp [hi]
    have hp := addL_len (l.take i) []
    rw [List.length_take, List.length_nil] at hp
    rw [addL_take [] l i hi]
    generalize addL [] (l.take i) = b at hp ⊢
    generalize l[i] = s at hx ⊢
    have hI := ev_in b s (by unfold maxLen; omega) false
    have hs := posOf_none b 0 s
    have c1 : (b.length + 1) * 16 ≤ 140737488355328 := by omega
    have c2 : b.length + 1 ≤ 140737488355328 := by omega
    unfold add1
    rw [← hs]
    cases hq : posOf 0 b s <;> rw [hq] at hI
    · simp [posI] at hI
      simp [L21_4, oL, a1, hw, idxOk, hx, hI, c1, c2]
    · rename_i p
      have hn : ¬ (p : Int) < 0 := by omega
      simp [posI] at hI
      simp [L21_4, oL, a1, hw, idxOk, hx, hI, hn]
  · rw [List.take_length]; simp [L21_4, oL]

theorem ev_RefPool (c : Cls) (hc : c.Wf) (hn : c.texts.length ≤ 1000000) : ev tab prim 21 [c.v] [[], []] = some (.list 1 (c.pool.map V.str) true, [[], []]) := by
  have hlen : c.texts.length = 2 + (c.im.length + ((c.fs.flatMap fT).length + (c.ms.flatMap mT).length)) := by simp only [Cls.texts, List.length_append, List.length_cons, List.length_nil]
  have h0 := rpLoop0 c hc ([c.n, c.s] ++ c.im) (by simp only [List.length_append, List.length_cons, List.length_nil]; omega)
  have h3 := rpLoop3 c hc ([c.n, c.s] ++ c.im ++ c.fs.flatMap fT) (by simp only [List.length_append, List.length_cons, List.length_nil]; omega)
  have h4 := rpLoop4 c.texts hn
  rw [show [c.n, c.s] ++ c.im ++ c.fs.flatMap fT ++ c.ms.flatMap mT = c.texts from by simp [Cls.texts]] at h3
  rw [show addL [] c.texts = c.pool from rfl] at h4
  generalize [c.n, c.s] ++ c.im ++ c.fs.flatMap fT = l1 at h0 h3
  have c1 : (c.im.length + 1 + 1) * 16 ≤ 140737488355328 := by omega
  have c2 : c.im.length + 1 + 1 ≤ 140737488355328 := by omega
  have c1' : (2 + c.im.length) * 16 ≤ 140737488355328 := by omega
  have c2' : 2 + c.im.length ≤ 140737488355328 := by omega
  have e1 : oL ([c.n, c.s] ++ c.im) = .list 1 (.str c.n :: .str c.s :: c.im.map V.str) true := by simp [oL]
  have e2 : oL [] = .list 1 [] true := rfl
  rw [e1] at h0
  rw [e2] at h4
  unfold Cls.v
  rw [ev_fn' tab prim (f := 21) rfl _ _ rfl]
  unfold Cls.cells at h0 h3 ⊢
  simp [h0, h3, h4, c1, c2, c1', c2']
  rfl

/-! Whether a class may be. -/
theorem rcLoop0 (c : Cls) (hc : c.Wf) (hs : c.Small) : cv tab prim (.loop L7_0) { env := [(1, .cptr c.cells), (3, .int .i64 0)], mem := [[], [], []] } =
    some (if ∀ i, i < c.im.length → (fun i => (c.im[i]?).all fun s => nameOk s) i = true then (.exit 0, { env := [(1, .cptr c.cells)], mem := [[], [], []] }) else (.ret, ckSt 6)) := by
  refine loop_find (fun i => { env := [(1, .cptr c.cells), (3, .int .i64 i)], mem := [[], [], []] }) c.im.length _ _ _ (fun i hi hp => ?_) (fun i hi hp => ?_) ?_ (by simp) (by simp)
  · have a1 : (i : Int) < (c.im.length : Int) := by omega
    have hw := wrap_succ hi hc.im
    have hx : (c.im.map V.str)[i]? = some (.str c.im[i]) := by simp [hi]
    have h1 := ev18 c.im[i] (by have := hs.ims _ (List.getElem_mem hi); omega)
    have hp' : nameOk c.im[i] = true := by simpa [hi] using hp
    rw [hp'] at h1
    simp [L7_0, Cls.cells, a1, hw, idxOk, hx, h1]
  · have a1 : (i : Int) < (c.im.length : Int) := by omega
    have hx : (c.im.map V.str)[i]? = some (.str c.im[i]) := by simp [hi]
    have h1 := ev18 c.im[i] (by have := hs.ims _ (List.getElem_mem hi); omega)
    have hp' : nameOk c.im[i] = false := by simpa [hi] using hp
    rw [hp'] at h1
    simp [L7_0, ckSt, Cls.cells, a1, idxOk, hx, h1]
  · simp [L7_0, Cls.cells]

theorem rcLoop1 (c : Cls) (hc : c.Wf) (hs : c.Small) : cv tab prim (.loop L7_1) { env := [(1, .cptr c.cells), (4, .int .i64 0)], mem := [[], [], []] } =
    some (if ∀ i, i < c.fs.length → (fun i => (c.fs[i]?).all fun f => nameOk f.n && typeOk f.d) i = true then (.exit 2, { env := [(1, .cptr c.cells)], mem := [[], [], []] }) else (.ret, ckSt 6)) := by
  refine loop_find (fun i => { env := [(1, .cptr c.cells), (4, .int .i64 i)], mem := [[], [], []] }) c.fs.length _ _ _ (fun i hi hp => ?_) (fun i hi hp => ?_) ?_ (by simp) (by simp)
  · have a1 : (i : Int) < (c.fs.length : Int) := by omega
    have hw := wrap_succ hi hc.fs
    have hx : (c.fs.map Fld.v)[i]? = some (Fld.v c.fs[i]) := by simp [hi]
    obtain ⟨b1, b2⟩ := hs.fss _ (List.getElem_mem hi)
    have h1 := ev18 c.fs[i].n (by omega)
    have h2 := ev19 c.fs[i].d (by omega)
    have hp' : nameOk c.fs[i].n = true ∧ typeOk c.fs[i].d = true := by simpa [hi] using hp
    rw [hp'.1] at h1
    rw [hp'.2] at h2
    simp [L7_1, Cls.cells, a1, hw, idxOk, hx, Fld.v, h1, h2]
  · have a1 : (i : Int) < (c.fs.length : Int) := by omega
    have hx : (c.fs.map Fld.v)[i]? = some (Fld.v c.fs[i]) := by simp [hi]
    obtain ⟨b1, b2⟩ := hs.fss _ (List.getElem_mem hi)
    have h1 := ev18 c.fs[i].n (by omega)
    have h2 := ev19 c.fs[i].d (by omega)
    have hp' : (nameOk c.fs[i].n && typeOk c.fs[i].d) = false := by simpa [hi] using hp
    cases e1 : nameOk c.fs[i].n
    · rw [e1] at h1
      simp [L7_1, ckSt, Cls.cells, a1, idxOk, hx, Fld.v, h1]
    · rw [e1, Bool.true_and] at hp'
      rw [e1] at h1
      rw [hp'] at h2
      simp [L7_1, ckSt, Cls.cells, a1, idxOk, hx, Fld.v, h1, h2]
  · simp [L7_1, Cls.cells]

theorem rcLoop2 (c : Cls) (hc : c.Wf) (hs : c.Small) : cv tab prim (.loop L7_2) { env := [(1, .cptr c.cells), (5, .int .i64 0)], mem := [[], [], []] } =
    some (bif firstE errM c.ms == 0 then (.exit 4, { env := [(1, .cptr c.cells)], mem := [[], [], []] }) else (.ret, ckSt (firstE errM c.ms))) := by
  refine loop_first errM c.ms (fun i => { env := [(1, .cptr c.cells), (5, .int .i64 i)], mem := [[], [], []] }) _ (fun e => (.ret, ckSt e)) (fun i hi hz => ?_) (fun i hi hz => ?_) ?_ (by simp) (by simp)
  · have a1 : (i : Int) < (c.ms.length : Int) := by omega
    have hw := wrap_succ hi hc.ms
    have hx : (c.ms.map Mth.v)[i]? = some (Mth.v c.ms[i]) := by simp [hi]
    have hC := ev_checkMethod c.ms[i] (hc.mss _ (List.getElem_mem hi)) (hs.mss _ (List.getElem_mem hi))
    rw [hz] at hC
    simp only [Mth.v, Mth.cells] at hC
    simp [L7_2, Cls.cells, a1, hw, idxOk, hx, Mth.v, Mth.cells, hC]
  · have a1 : (i : Int) < (c.ms.length : Int) := by omega
    have hx : (c.ms.map Mth.v)[i]? = some (Mth.v c.ms[i]) := by simp [hi]
    have hC := ev_checkMethod c.ms[i] (hc.mss _ (List.getElem_mem hi)) (hs.mss _ (List.getElem_mem hi))
    generalize errM c.ms[i] = e at hz hC ⊢
    have hz' : (e == 0) = false := by simp [hz]
    simp only [Mth.v, Mth.cells] at hC
    simp [L7_2, ckSt, Cls.cells, a1, idxOk, hx, Mth.v, Mth.cells, hC, hz', bne]
  · simp [L7_2, Cls.cells]

theorem all_im (c : Cls) : (∀ i, i < c.im.length → (fun i => (c.im[i]?).all fun s => nameOk s) i = true) ↔ (c.im.any fun s => !nameOk s) = false := by
  rw [List.any_eq_false]
  constructor
  · intro h f hf
    obtain ⟨i, hi, rfl⟩ := List.mem_iff_getElem.1 hf
    have := h i hi
    simpa [hi] using this
  · intro h i hi
    have := h _ (List.getElem_mem hi)
    simpa [hi] using this

set_option maxHeartbeats 16000000 in
theorem ev_CheckClass (c : Cls) (hc : c.Wf) (hs : c.Small) : ev tab prim 7 [c.v] [[], []] = some (.int .i64 c.err, [[], []]) := by
  have h1 := ev18 c.n (by have := hs.n; omega)
  have h2 := ev18 c.s (by have := hs.s; omega)
  have hP := ev_RefPool c hc (by have := hs.tx; omega)
  have l0 := rcLoop0 c hc hs
  have l1 := rcLoop1 c hc hs
  have l2 := rcLoop2 c hc hs
  have hf := all_fs c
  have hi := all_im c
  unfold Cls.err
  unfold Cls.v at hP ⊢
  rw [ev_fn' tab prim (f := 7) rfl _ _ rfl]
  unfold Cls.cells at *
  generalize nameOk c.n = o1 at *
  generalize nameOk c.s = o2 at *
  cases o1
  · simp [h1]
  have hp2 : (c.s == []) = true ∨ ((c.s == []) = false ∧ o2 = true) ∨ ((c.s == []) = false ∧ o2 = false) := by cases (c.s == []) <;> cases o2 <;> simp
  rcases hp2 with e | ⟨e, rfl⟩ | ⟨e, rfl⟩
  rotate_left 2
  · simp [h1, h2, e]
  all_goals
    cases o3 : (c.im.any fun s => !nameOk s)
    rotate_left
    · rw [if_neg (by rw [hi, o3]; simp)] at l0
      simp [h1, h2, o3, e, l0, ckSt]
    rw [if_pos (by rw [hi, o3])] at l0
    by_cases q1 : 30 < (c.im.length : Int)
    · simp [h1, h2, o3, e, q1, l0, ckSt]
    by_cases q2 : 20 < (c.fs.length : Int)
    · simp [h1, h2, o3, e, q1, q2, l0, ckSt]
    by_cases q3 : 20 < (c.ms.length : Int)
    · simp [h1, h2, o3, e, q1, q2, q3, l0, ckSt]
    cases o4 : (c.fs.any fun f => !(nameOk f.n && typeOk f.d))
    rotate_left
    · rw [if_neg (by rw [hf, o4]; simp)] at l1
      simp [h1, h2, o3, e, q1, q2, q3, l0, l1, ckSt, o4]
    rw [if_pos (by rw [hf, o4])] at l1
    cases o5 : firstE errM c.ms == 0
    · rw [o5] at l2
      simp [h1, h2, o3, e, q1, q2, q3, l0, l1, l2, ckSt, o4]
    rw [o5] at l2
    by_cases q4 : 500 < (c.pool.length : Int)
    · simp [h1, h2, o3, e, q1, q2, q3, q4, l0, l1, l2, ckSt, o4, hP]
    · simp [h1, h2, o3, e, q1, q2, q3, q4, l0, l1, l2, ckSt, o4, hP]

end Go.Proofs.YtgmlanhhjmhmmaaGreat.Ev
