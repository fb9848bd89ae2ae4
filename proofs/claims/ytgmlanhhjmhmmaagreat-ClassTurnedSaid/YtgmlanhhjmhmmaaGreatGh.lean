/- The law of pools. -/
import Derived.Test.YtgmlanhhjmhmmaaGreatGg
namespace Go.Proofs.YtgmlanhhjmhmmaaGreat.Ev
open Go

def posI : Option Nat → Int
  | some p => p
  | none => -1

theorem inLoop (l : List Tx) (s : Tx) (hl : l.length ≤ maxLen) : ∀ (k i : Nat), i + k = l.length →
    cv tab prim (.loop L51_0) { env := [(0, .list 1 (l.map V.str) false), (1, .str s), (5, .int .i64 (i : Int))], mem := [[], [], []] } =
      some (match posOf i (l.drop i) s with | some p => (.ret, { env := [(4, .int .i64 (p : Int))], mem := [[], [], []] }) | none => (.exit 0, { env := [], mem := [[], [], []] })) := by
  intro k
  induction k with
  | zero =>
    intro i hi
    rw [cv_loop', List.drop_eq_nil_of_le (by omega)]
    have h1 : ¬ (i : Int) < (l.length : Int) := by omega
    simp [L51_0, h1, posOf]
  | succ k ih =>
    intro i hi
    have hlt : i < l.length := by omega
    have h1 : (i : Int) < (l.length : Int) := by omega
    have hw := wrap_succ hlt hl
    have hx : (l.map V.str)[i]? = some (.str l[i]) := by simp [hlt]
    have := ih (i + 1) (by omega)
    rw [cv_loop', List.drop_eq_getElem_cons hlt, posOf]
    cases h : s == l[i]
    · have h' : (l[i] == s) = false := by rw [Bool.beq_comm]; exact h
      rw [cond_false, ← this]
      simp [L51_0, h1, idxOk, hx, hw, h']
    · have h' : (l[i] == s) = true := by rw [Bool.beq_comm]; exact h
      simp [L51_0, h1, idxOk, hx, h']

theorem ev_in (l : List Tx) (s : Tx) (hl : l.length ≤ maxLen) (o : Bool) : ev tab prim 51 [.list 1 (l.map V.str) o, .str s] [[], []] = some (.int .i64 (posI (posOf 0 l s)), [[], []]) := by
  have h := inLoop l s hl l.length 0 (by omega)
  rw [List.drop_zero] at h
  rw [ev_fn' tab prim (f := 51) rfl _ _ rfl]
  simp only [Int.natCast_zero] at h
  cases hp : posOf 0 l s <;> rw [hp] at h <;> simp at h <;> simp [h, posI]

theorem add1_nodup {l : List Tx} {s : Tx} (h : l.Nodup) : (add1 l s).Nodup := by
  unfold add1
  cases hc : l.contains s
  · rw [cond_false, List.nodup_append]
    refine ⟨h, by simp, fun a ha b hb => ?_⟩
    rw [List.mem_singleton] at hb
    subst hb
    intro hab
    subst hab
    have : l.contains a = true := by simpa using ha
    rw [hc] at this; cases this
  · exact h
theorem addL_nodup : ∀ (xs : List Tx) {l : List Tx}, l.Nodup → (addL l xs).Nodup
  | [], _, h => h
  | _ :: r, _, h => addL_nodup r (add1_nodup h)
theorem add1_mem {l : List Tx} {s t : Tx} : t ∈ add1 l s ↔ t ∈ l ∨ t = s := by
  unfold add1
  cases hc : l.contains s
  · simp
  · have : s ∈ l := by simpa using hc
    constructor
    · exact fun h => .inl h
    · rintro (h | rfl)
      · exact h
      · exact this
theorem addL_mem : ∀ (xs : List Tx) {l : List Tx} {t : Tx}, t ∈ addL l xs ↔ t ∈ l ∨ t ∈ xs
  | [], l, t => by simp [addL]
  | x :: r, l, t => by
    rw [show addL l (x :: r) = addL (add1 l x) r from rfl, addL_mem r, add1_mem, List.mem_cons, or_assoc]
theorem add1_pre (l : List Tx) (s : Tx) : l <+: add1 l s := by
  unfold add1
  cases l.contains s
  · exact List.prefix_append _ _
  · exact List.prefix_refl _
theorem addL_pre : ∀ (xs l : List Tx), l <+: addL l xs
  | [], l => List.prefix_refl _
  | x :: r, l => (add1_pre l x).trans (addL_pre r _)
theorem take_not {l : List Tx} (h : l.Nodup) (i : Nat) (hi : i < l.length) : (l.take i).contains l[i] = false := by
  rw [Bool.eq_false_iff]
  intro hc
  have hm : l[i] ∈ l.take i := by simpa using hc
  obtain ⟨j, hj, he⟩ := List.mem_take_iff_getElem.1 hm
  exact List.pairwise_iff_getElem.1 h j i (by omega) hi (by omega) he

def kE (c : Cls) (p : List Tx) (r : Env) : Env := (1, .cptr c.cells) :: (3, .list 1 (p.map V.str) false) :: r

set_option maxRecDepth 100000 in
theorem ev_awakeP : ev tab prim 8 [] [[], []] = some (.bool true, [[], []]) := ev_of_fuel 200 (by kernel_rfl)

theorem pool_head (c : Cls) : ∃ r, c.pool = (if c.s = c.n then [c.n] else [c.n, c.s]) ++ r := by
  have h : c.pool = addL (addL [] [c.n, c.s]) (c.im ++ (c.fs.flatMap fT ++ c.ms.flatMap mT)) := by rw [Cls.pool, Cls.texts, addL_append]
  have h2 : addL [] [c.n, c.s] = if c.s = c.n then [c.n] else [c.n, c.s] := by
    by_cases he : c.s = c.n
    · simp [addL, add1, he]
    · simp [addL, add1, he]
  obtain ⟨r, hr⟩ := addL_pre (c.im ++ (c.fs.flatMap fT ++ c.ms.flatMap mT)) (addL [] [c.n, c.s])
  rw [← h, h2] at hr
  exact ⟨r, hr.symm⟩

end Go.Proofs.YtgmlanhhjmhmmaaGreat.Ev
