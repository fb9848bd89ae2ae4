/- Plain law: a text's lines. -/
import Derived.Test.YtpmpofcokkgfdaaGreatDoorUb
import Derived.Lib.Strings
namespace Go.Proofs.YtpmpofcokkgfdaaGreatDoor.Ev
open Go

def dropE (p : List (List UInt8)) : List (List UInt8) := if p.getLast? = some [] then p.dropLast else p
/-- The program's lines. -/
def splitP (t : List UInt8) : List (List UInt8) × Int := if t = [] then ([], 0) else if 262144 < t.length ∨ 10000 < (cutB 10 (Lib.trimSuffix t [10])).length then ([], 7) else (cutB 10 (Lib.trimSuffix t [10]), 0)
/-- The reference's lines. -/
def splitF (t : List UInt8) : List (List UInt8) × Int := if 262144 < t.length then ([], 7) else if 10000 < (dropE (cutB 10 t)).length then ([], 7) else (dropE (cutB 10 t), 0)

theorem cutB_end (c : UInt8) : ∀ s : List UInt8, cutB c (s ++ [c]) = cutB c s ++ [[]]
  | [] => by simp [cutB]
  | b :: r => by
    have ih := cutB_end c r
    rw [List.cons_append]
    unfold cutB
    by_cases h : b = c
    · rw [if_pos h, if_pos h, ih]; rfl
    · rw [if_neg h, if_neg h, ih]
      cases hc : cutB c r with
      | nil => exact absurd hc (cutB_ne c r)
      | cons w ws => rfl
theorem cutB_last (c : UInt8) : ∀ s : List UInt8, s ≠ [] → s.getLast? ≠ some c → (cutB c s).getLast? ≠ some []
  | [], h, _ => absurd rfl h
  | [b], _, h2 => by
    have h : b ≠ c := by simpa using h2
    unfold cutB
    rw [if_neg h]
    simp [cutB]
  | b :: x :: r, _, h2 => by
    have ih := cutB_last c (x :: r) (by simp) (by rw [List.getLast?_cons_cons] at h2; exact h2)
    have hne := cutB_ne c (x :: r)
    unfold cutB
    by_cases h : b = c
    · rw [if_pos h]
      cases hc : cutB c (x :: r) with
      | nil => exact absurd hc hne
      | cons w ws => rw [hc] at ih; rw [List.getLast?_cons_cons]; exact ih
    · rw [if_neg h]
      cases hc : cutB c (x :: r) with
      | nil => exact absurd hc hne
      | cons w ws =>
        rw [hc] at ih
        cases ws with
        | nil => simp
        | cons w2 ws => rw [List.getLast?_cons_cons] at ih ⊢; exact ih

theorem lines_eq (t : List UInt8) (h : t ≠ []) : cutB 10 (Lib.trimSuffix t [10]) = dropE (cutB 10 t) := by
  by_cases h2 : t.getLast? = some 10
  · obtain ⟨s, rfl⟩ : ∃ s, t = s ++ [10] := ⟨t.dropLast, by
      have h3 := List.dropLast_concat_getLast h
      rw [List.getLast?_eq_some_getLast h] at h2
      rw [Option.some.inj h2] at h3
      exact h3.symm⟩
    have e : Lib.trimSuffix (s ++ [10]) [10] = s := by
      unfold Lib.trimSuffix Lib.hasSuffix
      have : ([10] : List UInt8).isSuffixOf (s ++ [10]) = true := List.isSuffixOf_iff_suffix.2 ⟨s, rfl⟩
      rw [if_pos this]
      simp
    rw [e, cutB_end, dropE, if_pos (by simp)]
    simp
  · have e : Lib.trimSuffix t [10] = t := by
      unfold Lib.trimSuffix
      have : ([10] : List UInt8).isSuffixOf t = false := by
        cases hq : ([10] : List UInt8).isSuffixOf t with
        | false => rfl
        | true =>
          obtain ⟨r, rfl⟩ := List.isSuffixOf_iff_suffix.1 hq
          simp at h2
      unfold Lib.hasSuffix
      rw [this]
      rfl
    rw [e, dropE, if_neg (cutB_last 10 t h h2)]

theorem split_eq2 (t : List UInt8) : splitP t = splitF t := by
  unfold splitP splitF
  by_cases h : t = []
  · subst h; rfl
  · rw [if_neg h, lines_eq t h]
    by_cases h1 : 262144 < t.length
    · rw [if_pos h1, if_pos (.inl h1)]
    · rw [if_neg h1]
      by_cases h2 : 10000 < (dropE (cutB 10 t)).length
      · rw [if_pos h2, if_pos (.inr h2)]
      · rw [if_neg h2, if_neg (by omega)]

def glue (l : List (List UInt8)) : List UInt8 := (l.map fun w => w ++ [10]).flatten
theorem cut_glue : ∀ l : List (List UInt8), (∀ w ∈ l, (10 : UInt8) ∉ w) → cutB 10 (glue l) = l ++ [[]]
  | [], _ => rfl
  | w :: r, h => by
    have ih := cut_glue r fun x hx => h x (by simp [hx])
    have e : glue (w :: r) = w ++ 10 :: glue r := by simp [glue]
    rw [e, cutB_app 10 w _ (h w (by simp)), ih]
    rfl
theorem lines_glue {l : List (List UInt8)} (h : ∀ w ∈ l, (10 : UInt8) ∉ w) (h2 : (splitF (glue l)).2 = 0) : (splitF (glue l)).1 = l := by
  unfold splitF at h2 ⊢
  have e : dropE (cutB 10 (glue l)) = l := by rw [cut_glue l h, dropE, if_pos (by simp)]; simp
  rw [e] at h2 ⊢
  by_cases h3 : 262144 < (glue l).length
  · rw [if_pos h3] at h2; cases h2
  · rw [if_neg h3] at h2 ⊢
    by_cases h4 : 10000 < l.length
    · rw [if_pos h4] at h2; cases h2
    · rw [if_neg h4]

end Go.Proofs.YtpmpofcokkgfdaaGreatDoor.Ev
