/- Plain facts of Script: what Trim leaves of hexadecimal digits; lists of numbers, one by one. -/
import Derived.Test.YtpmpofcokkgfdaaGreatDoorUc
import Derived.Lib.SlTrimSet
namespace Go.Proofs.YtpmpofcokkgfdaaGreatDoor.Ev
open Go

def hexesL : List UInt8 := [48, 49, 50, 51, 52, 53, 54, 55, 56, 57, 97, 98, 99, 100, 101, 102]
theorem hexes_mem (b : UInt8) : hexesL.contains b = hexB b := by
  have t : (List.range 256).map (fun n : Nat => hexesL.contains (UInt8.ofNat n)) = (List.range 256).map (fun n : Nat => hexB (UInt8.ofNat n)) := by decide +kernel
  have := of_map' t (show b.toNat < 256 from b.toNat_lt)
  simpa using this
theorem drop_nil {p : UInt8 → Bool} : ∀ l : List UInt8, l.dropWhile p = [] ↔ l.all p = true
  | [] => by simp
  | b :: r => by
    rw [List.dropWhile_cons, List.all_cons]
    cases h : p b with
    | true => simp [drop_nil r]
    | false => simp
theorem trim_nil (s cs : List UInt8) : (Lib.trimS s cs == []) = s.all (cs.contains ·) := by
  unfold Lib.trimS Lib.trimLeftS Lib.trimRightS
  rw [Bool.eq_iff_iff, beq_iff_eq, drop_nil]
  refine ⟨fun h => ?_, fun h => ?_⟩
  · cases hd : s.reverse.dropWhile (cs.contains ·) with
    | nil =>
      have := (drop_nil _).1 hd
      rwa [List.all_reverse] at this
    | cons b r =>
      exfalso
      have h2 := List.head?_dropWhile_not (cs.contains ·) s.reverse
      rw [hd] at h h2
      rw [List.all_reverse, List.all_cons] at h
      simp at h h2
      exact h2 h.1
  · have : s.reverse.dropWhile (cs.contains ·) = [] := (drop_nil _).2 (by rw [List.all_reverse]; exact h)
    rw [this]
    rfl
theorem hex_trim (s : List UInt8) : (Lib.trimS s hexesL == []) = s.all hexB := by
  rw [trim_nil]
  congr 1
  funext b
  exact hexes_mem b

/-- A list's text, number by number. -/
def numsG : List UInt8 → List Int → List UInt8
  | acc, [] => acc
  | acc, n :: r => numsG (acc ++ 44 :: Lib.itoa n) r
theorem joinTail_app (l : List Int) : ∀ acc : List UInt8, numsG acc l = acc ++ Lib.joinTail [44] (l.map Lib.itoa) := by
  induction l with
  | nil => intro acc; simp [numsG, Lib.joinTail]
  | cons n r ih =>
    intro acc
    unfold numsG
    rw [ih]
    simp [Lib.joinTail]
theorem numsT_cons (n : Int) (r : List Int) : numsT (n :: r) = numsG (Lib.itoa n) r := by
  show Lib.join ((n :: r).map Lib.itoa) [44] = _
  rw [List.map_cons, Lib.join_cons, joinTail_app]
theorem numsG_snoc (l : List Int) (n : Int) : ∀ acc, numsG acc (l ++ [n]) = numsG acc l ++ 44 :: Lib.itoa n := by
  induction l with
  | nil => intro acc; rfl
  | cons m r ih => intro acc; exact ih _
theorem numsT_snoc (l : List Int) (n : Int) (h : l ≠ []) : numsT (l ++ [n]) = numsT l ++ 44 :: Lib.itoa n := by
  cases l with
  | nil => exact absurd rfl h
  | cons m r => rw [List.cons_append, numsT_cons, numsT_cons, numsG_snoc]
theorem numsT_one (n : Int) : numsT [n] = Lib.itoa n := by
  rw [numsT_cons]; rfl
theorem numsT_len (l : List Int) (h : ∀ n ∈ l, -9223372036854775808 ≤ n ∧ n ≤ 9223372036854775807) : (numsT l).length ≤ 1 + l.length * 2001 := by
  cases l with
  | nil => simp [numsT]
  | cons m r =>
    rw [numsT_cons]
    have key : ∀ (q : List Int) (acc : List UInt8), (∀ n ∈ q, -9223372036854775808 ≤ n ∧ n ≤ 9223372036854775807) → (numsG acc q).length ≤ acc.length + q.length * 2001 := by
      intro q
      induction q with
      | nil => intro acc _; simp [numsG]
      | cons n q ih =>
        intro acc hq
        have h1 := ih (acc ++ 44 :: Lib.itoa n) fun x hx => hq x (by simp [hx])
        have h2 := itoa_len n (hq n (by simp))
        unfold numsG
        simp at h1 ⊢
        omega
    have h1 := key r (Lib.itoa m) fun x hx => h x (by simp [hx])
    have h2 := itoa_len m (h m (by simp))
    simp
    omega

end Go.Proofs.YtpmpofcokkgfdaaGreatDoor.Ev
