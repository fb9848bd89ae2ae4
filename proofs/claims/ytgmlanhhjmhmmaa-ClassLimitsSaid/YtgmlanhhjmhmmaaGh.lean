/- The law of pools. -/
import Derived.Test.YtgmlanhhjmhmmaaGg
namespace Go.Proofs.Ytgmlanhhjmhmmaa.Ev
open Go

def posI : Option Nat → Int
  | some p => p
  | none => -1

theorem inLoop (l : List Tx) (s : Tx) (hl : l.length ≤ maxLen) : ∀ (k i : Nat), i + k = l.length →
    cv tab prim (.loop L43_0) { env := [(0, .list 1 (l.map V.str) false), (1, .str s), (5, .int .i64 (i : Int))], mem := [[], [], []] } =
      some (match posOf i (l.drop i) s with | some p => (.ret, { env := [(4, .int .i64 (p : Int))], mem := [[], [], []] }) | none => (.exit 0, { env := [], mem := [[], [], []] })) := by
  intro k
  induction k with
  | zero =>
    intro i hi
    rw [cv_loop', List.drop_eq_nil_of_le (by omega)]
    have h1 : ¬ (i : Int) < (l.length : Int) := by omega
    simp [L43_0, h1, posOf]
  | succ k ih =>
    intro i hi
    have hlt : i < l.length := by omega
    have h1 : (i : Int) < (l.length : Int) := by omega
    have hw := wrap_succ hlt hl
    have hx : (l.map V.str)[i]? = some (.str l[i]) := by simp [hlt]
    have := ih (i + 1) (by omega)
    rw [cv_loop', List.drop_eq_getElem_cons hlt, posOf]
    cases h : s == l[i]
    · have h' : (l[i] == s) = false := by rw [Bool.beq_comm]; exact h
      rw [cond_false, ← this]
      simp [L43_0, h1, idxOk, hx, hw, h']
    · have h' : (l[i] == s) = true := by rw [Bool.beq_comm]; exact h
      simp [L43_0, h1, idxOk, hx, h']

theorem ev_in (l : List Tx) (s : Tx) (hl : l.length ≤ maxLen) (o : Bool) : ev tab prim 43 [.list 1 (l.map V.str) o, .str s] [[], []] = some (.int .i64 (posI (posOf 0 l s)), [[], []]) := by
  have h := inLoop l s hl l.length 0 (by omega)
  rw [List.drop_zero] at h
  rw [ev_fn' tab prim (f := 43) rfl _ _ rfl]
  simp only [Int.natCast_zero] at h
  cases hp : posOf 0 l s <;> rw [hp] at h <;> simp at h <;> simp [h, posI]

theorem ev_Has (l : List Tx) (s : Tx) (hl : l.length ≤ maxLen) (o : Bool) : ev tab prim 20 [.list 1 (l.map V.str) o, .str s] [[], []] = some (.bool (l.contains s), [[], []]) := by
  have h := ev_in l s hl false
  have hs := posOf_none l 0 s
  rw [ev_fn' tab prim (f := 20) rfl _ _ rfl]
  rw [← hs]
  cases hp : posOf 0 l s <;> rw [hp] at h <;> simp [h, posI]

/-! Each once. -/
theorem add1_nodup {l : List Tx} {s : Tx} (h : l.Nodup) : (add1 l s).Nodup := by
  unfold add1
  cases hc : l.contains s
  · rw [cond_false, List.nodup_append]
    refine ⟨h, by simp, fun a ha b hb => ?_⟩
    rw [List.mem_singleton] at hb
    subst hb
    intro hab
    subst hab
    have : l.contains a = true := by simpa using ha
    rw [hc] at this; cases this
  · exact h
theorem addL_nodup : ∀ (xs : List Tx) {l : List Tx}, l.Nodup → (addL l xs).Nodup
  | [], _, h => h
  | _ :: r, _, h => addL_nodup r (add1_nodup h)
theorem add1_mem {l : List Tx} {s t : Tx} : t ∈ add1 l s ↔ t ∈ l ∨ t = s := by
  unfold add1
  cases hc : l.contains s
  · simp
  · have : s ∈ l := by simpa using hc
    constructor
    · exact fun h => .inl h
    · rintro (h | rfl)
      · exact h
      · exact this
theorem addL_mem : ∀ (xs : List Tx) {l : List Tx} {t : Tx}, t ∈ addL l xs ↔ t ∈ l ∨ t ∈ xs
  | [], l, t => by simp [addL]
  | x :: r, l, t => by
    rw [show addL l (x :: r) = addL (add1 l x) r from rfl, addL_mem r, add1_mem, List.mem_cons, or_assoc]
theorem add1_pre (l : List Tx) (s : Tx) : l <+: add1 l s := by
  unfold add1
  cases l.contains s
  · exact List.prefix_append _ _
  · exact List.prefix_refl _
theorem addL_pre : ∀ (xs l : List Tx), l <+: addL l xs
  | [], l => List.prefix_refl _
  | x :: r, l => (add1_pre l x).trans (addL_pre r _)
theorem take_not {l : List Tx} (h : l.Nodup) (i : Nat) (hi : i < l.length) : (l.take i).contains l[i] = false := by
  rw [Bool.eq_false_iff]
  intro hc
  have hm : l[i] ∈ l.take i := by simpa using hc
  obtain ⟨j, hj, he⟩ := List.mem_take_iff_getElem.1 hm
  exact List.pairwise_iff_getElem.1 h j i (by omega) hi (by omega) he

def kE (c : Cls) (p : List Tx) (r : Env) : Env := (1, .cptr c.cells) :: (3, .list 1 (p.map V.str) false) :: r

theorem kLoop0 (c : Cls) (p : List Tx) (hp : p.Nodup) (hl : p.length ≤ maxLen) :
    cv tab prim (.loop L6_0) { env := kE c p [(4, .int .i64 0)], mem := [[], [], []] } = some (.exit 0, { env := kE c p [], mem := [[], [], []] }) := by
  refine loop_all (fun i => { env := kE c p [(4, .int .i64 i)], mem := [[], [], []] }) p.length _ (fun i hi => ?_) ?_ (by simp)
  · have a1 : (i : Int) < (p.length : Int) := by omega
    have a2 : (i : Int) ≤ (p.length : Int) := by omega
    have hw := wrap_succ hi hl
    have hx : (p.map V.str)[i]? = some (.str p[i]) := by simp [hi]
    have hH := ev_Has (p.take i) p[i] (by rw [List.length_take]; omega) false
    rw [take_not hp i hi, List.map_take] at hH
    simp [L6_0, kE, a1, a2, hw, idxOk, hx, hH]
  · simp [L6_0, kE]

theorem kLoop1 (c : Cls) (hc : c.Wf) (p : List Tx) (hl : p.length ≤ maxLen) (hm : ∀ m ∈ c.ms, m.n ∈ p ∧ m.d ∈ p) :
    cv tab prim (.loop L6_1) { env := kE c p [(5, .int .i64 0)], mem := [[], [], []] } = some (.exit 2, { env := kE c p [], mem := [[], [], []] }) := by
  refine loop_all (fun i => { env := kE c p [(5, .int .i64 i)], mem := [[], [], []] }) c.ms.length _ (fun i hi => ?_) ?_ (by simp)
  · have a1 : (i : Int) < (c.ms.length : Int) := by omega
    have hw := wrap_succ hi hc.ms
    have hx : (c.ms.map Mth.v)[i]? = some (Mth.v c.ms[i]) := by simp [hi]
    obtain ⟨m1, m2⟩ := hm _ (List.getElem_mem hi)
    have h1 := ev_Has p c.ms[i].n hl false
    have h2 := ev_Has p c.ms[i].d hl false
    rw [List.contains_iff_mem.2 m1] at h1
    rw [List.contains_iff_mem.2 m2] at h2
    simp [L6_1, kE, Cls.cells, a1, hw, idxOk, hx, Mth.v, Mth.cells, h1, h2]
  · simp [L6_1, kE, Cls.cells]

theorem kLoop2 (c : Cls) (hc : c.Wf) (p : List Tx) (hl : p.length ≤ maxLen) (hm : ∀ m ∈ c.fs, m.n ∈ p ∧ m.d ∈ p) :
    cv tab prim (.loop L6_2) { env := kE c p [(6, .int .i64 0)], mem := [[], [], []] } = some (.exit 4, { env := [], mem := [[], [], []] }) := by
  refine loop_all (fun i => { env := kE c p [(6, .int .i64 i)], mem := [[], [], []] }) c.fs.length _ (fun i hi => ?_) ?_ (by simp)
  · have a1 : (i : Int) < (c.fs.length : Int) := by omega
    have hw := wrap_succ hi hc.fs
    have hx : (c.fs.map Fld.v)[i]? = some (Fld.v c.fs[i]) := by simp [hi]
    obtain ⟨m1, m2⟩ := hm _ (List.getElem_mem hi)
    have h1 := ev_Has p c.fs[i].n hl false
    have h2 := ev_Has p c.fs[i].d hl false
    rw [List.contains_iff_mem.2 m1] at h1
    rw [List.contains_iff_mem.2 m2] at h2
    simp [L6_2, kE, Cls.cells, a1, hw, idxOk, hx, Fld.v, h1, h2]
  · simp [L6_2, kE, Cls.cells]

set_option maxRecDepth 100000 in
theorem ev_awakeP : ev tab prim 8 [] [[], []] = some (.bool true, [[], []]) := ev_of_fuel 200 (by kernel_rfl)

theorem pool_head (c : Cls) : ∃ r, c.pool = (if c.s = c.n then [c.n] else [c.n, c.s]) ++ r := by
  have h : c.pool = addL (addL [] [c.n, c.s]) (c.im ++ (c.fs.flatMap fT ++ c.ms.flatMap mT)) := by rw [Cls.pool, Cls.texts, addL_append]
  have h2 : addL [] [c.n, c.s] = if c.s = c.n then [c.n] else [c.n, c.s] := by
    by_cases he : c.s = c.n
    · simp [addL, add1, he]
    · simp [addL, add1, he]
  obtain ⟨r, hr⟩ := addL_pre (c.im ++ (c.fs.flatMap fT ++ c.ms.flatMap mT)) (addL [] [c.n, c.s])
  rw [← h, h2] at hr
  exact ⟨r, hr.symm⟩

set_option maxHeartbeats 4000000 in
theorem ev_lawPool (c : Cls) (hc : c.Wf) : ev tab prim 6 [c.v] [[], []] = some (.bool true, [[], []]) := by
  have h1 := ev_ClassSize c hc
  by_cases hb : 12000 < c.size
  · unfold Cls.v Cls.cells at *
    rw [ev_fn' tab prim (f := 6) rfl _ _ rfl]
    simp [h1, hb, ev_awakeP]
  have hs := c.small (by omega)
  have hP := ev_Pool c hc (by have := hs.tx; omega)
  have hnd : c.pool.Nodup := addL_nodup _ List.nodup_nil
  have hlen : c.pool.length ≤ 40000 := by have := addL_len c.texts []; have := hs.tx; simp only [List.length_nil, Cls.pool] at *; omega
  have hl : c.pool.length ≤ maxLen := by unfold maxLen; omega
  have hmem : ∀ t, t ∈ c.texts → t ∈ c.pool := fun t ht => (addL_mem _).2 (.inr ht)
  have k0 := kLoop0 c c.pool hnd hl
  have k1 := kLoop1 c hc c.pool hl fun m hm => by
    refine ⟨hmem _ ?_, hmem _ ?_⟩ <;> simp only [Cls.texts, List.mem_append, List.mem_flatMap] <;> exact .inr (.inr (.inr ⟨m, hm, by simp [mT]⟩))
  have k2 := kLoop2 c hc c.pool hl fun m hm => by
    refine ⟨hmem _ ?_, hmem _ ?_⟩ <;> simp only [Cls.texts, List.mem_append, List.mem_flatMap] <;> exact .inr (.inr (.inl ⟨m, hm, by simp [fT]⟩))
  have hS := ev_Has c.pool c.s hl false
  rw [List.contains_iff_mem.2 (hmem c.s (by simp [Cls.texts]))] at hS
  obtain ⟨r, hr⟩ := pool_head c
  simp only [kE] at k0 k1 k2
  generalize c.pool = p at *
  unfold Cls.v Cls.cells at *
  rw [ev_fn' tab prim (f := 6) rfl _ _ rfl]
  by_cases he : c.s = c.n
  · rw [if_pos he] at hr
    have e0 : (p.map V.str)[0]? = some (.str c.n) := by rw [hr]; rfl
    have hq : p.length = r.length + 1 := by rw [hr]; simp
    have n0 : ((p.length : Int) == 0) = false := by rw [beq_eq_false_iff_ne]; omega
    have n1 : 0 < p.length := by omega
    have g0 : ∀ h : 0 < p.length, p[0] = c.n := by subst hr; intro h; rfl
    have he' : (c.s == c.n) = true := by simp [he]
    simp [g0, h1, hb, ev_awakeP, hP, k0, k1, k2, hS, e0, n0, n1, he', idxOk]
  · rw [if_neg he] at hr
    have e0 : (p.map V.str)[0]? = some (.str c.n) := by rw [hr]; rfl
    have e1 : (p.map V.str)[1]? = some (.str c.s) := by rw [hr]; rfl
    have hq : p.length = r.length + 2 := by rw [hr]; simp
    have n0 : ((p.length : Int) == 0) = false := by rw [beq_eq_false_iff_ne]; omega
    have n1 : 0 < p.length := by omega
    have n2 : ¬ (p.length : Int) < 2 := by omega
    have n2' : ¬ p.length < 2 := by omega
    have n3 : (1 : Int) < (p.length : Int) := by omega
    have n3' : 1 < p.length := by omega
    have g0 : ∀ h : 0 < p.length, p[0] = c.n := by subst hr; intro h; rfl
    have g1 : ∀ h : 1 < p.length, p[1] = c.s := by subst hr; intro h; rfl
    have he' : (c.s == c.n) = false := by simp [he]
    simp [g0, g1, h1, hb, ev_awakeP, hP, k0, k1, k2, hS, e0, e1, n0, n1, n2, n2', n3, n3', he', idxOk]

end Go.Proofs.Ytgmlanhhjmhmmaa.Ev
