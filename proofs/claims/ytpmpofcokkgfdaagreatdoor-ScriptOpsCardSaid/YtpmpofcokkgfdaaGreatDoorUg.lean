/- script's words, hex, plain, list. -/
import Derived.Test.YtpmpofcokkgfdaaGreatDoorUe
import Derived.Test.YtpmpofcokkgfdaaGreatDoorUf
namespace Go.Proofs.YtpmpofcokkgfdaaGreatDoor.Ev
open Go

def tableV : List V := (kwords.map fun p => [V.str p.1, V.str p.2]).flatten
theorem ev_swords : ev tab prim 16 [] [[], []] = some (.agg tableV, [[], []]) := ev_of_fuel 30 (by kernel_rfl)

theorem ev_Trim (s : List UInt8) (h : s.length ≤ 281474976710656) (m : Mem) : ev tab prim 42 [.str s, .str [48, 49, 50, 51, 52, 53, 54, 55, 56, 57, 97, 98, 99, 100, 101, 102]] m = some (.str (Lib.trimS s hexesL), m) := by
  rw [ev_prim tab prim rfl]
  have h2 : hexesL.all (fun b => decide (b.toNat < 128)) = true := by decide
  have h3 : hexesL.length ≤ 1000 := by decide
  show (if s.length ≤ 281474976710656 ∧ hexesL.length ≤ 1000 ∧ hexesL.all (fun b => decide (b.toNat < 128)) = true then some (V.str (Lib.trimS s hexesL), m) else none) = _
  rw [if_pos ⟨h, h3, h2⟩]

theorem ev_shex (s : List UInt8) (h : s.length ≤ 1000000) : ev tab prim 33 [.str s] [[], []] = some (.bool (hexT s), [[], []]) := by
  have ht := ev_Trim s (by omega) [[], []]
  have hbne : ∀ a b : List UInt8, (a != b) = !(a == b) := fun _ _ => rfl
  unfold hexT
  rw [← hex_trim]
  generalize Lib.trimS s hexesL = t at *
  have hr : (s.length : Int).tmod 2 = ((s.length % 2 : Nat) : Int) := by rw [Int.tmod_eq_emod_of_nonneg (by omega)]; omega
  have hr2 : IntKind.i64.wrap (((s.length % 2 : Nat) : Int)) = ((s.length % 2 : Nat) : Int) := wrap_small (by omega) (by omega)
  rw [ev_fn' tab prim (f := 33) rfl _ _ rfl]
  cases h1 : (s == [45]) with
  | true => simp [h1]
  | false =>
    cases h2 : (s == []) with
    | true =>
      have : s = [] := by simpa using h2
      subst this
      simp [hbne]
    | false =>
      have h3 : s.isEmpty = false := by simpa using h2
      by_cases h4 : s.length % 2 = 0
      · cases h5 : (t == []) with
        | true => simp [h1, hbne, h2, h3, hr, h4, ht, h5]
        | false => simp [h1, hbne, h2, h3, hr, h4, ht, h5]
      · have h6 : (((s.length % 2 : Nat) : Int) == 0) = false := by rw [beq_eq_false_iff_ne]; omega
        generalize ((s.length % 2 : Nat) : Int) = q at *
        simp [h1, hbne, h2, h3, hr, h4, h6]

theorem ev_splain (s : List UInt8) (h : s.length ≤ 1000000) : ev tab prim 34 [.str s] [[], []] = some (.bool (plainT s), [[], []]) := by
  have hc := ev_ContainsAny s h
  have hbne : ∀ a b : List UInt8, (a != b) = !(a == b) := fun _ _ => rfl
  unfold plainT
  generalize s.any isSep = q at *
  rw [ev_fn' tab prim (f := 34) rfl _ _ rfl]
  cases h2 : (s == []) with
  | true =>
    have : s = [] := by simpa using h2
    subst this
    simp [hbne]
  | false =>
    have h3 : s.isEmpty = false := by simpa using h2
    cases q <;> simp [hbne, h2, h3, hc]

/-! ### A list of numbers as a word -/
def slSt (l : List Int) (out : List (List UInt8)) (i : Nat) : St := { env := [(4, .list 1 (out.map V.str) true), (10, .list 1 (ints l) false), (11, .int .i64 l.length), (12, .int .i64 i)], mem := [[], [], []] }

theorem join_len2 (l : List Int) (hl : ∀ n ∈ l, -9223372036854775808 ≤ n ∧ n ≤ 9223372036854775807) (h : l.length ≤ 100000) : (Lib.join (l.map Lib.itoa) [44]).length ≤ 140737488355328 := by
  cases l with
  | nil => simp [Lib.join_nil]
  | cons n r =>
    have h1 := numsT_len (n :: r) hl
    have e : numsT (n :: r) = Lib.join ((n :: r).map Lib.itoa) [44] := rfl
    rw [e] at h1
    omega

theorem ev_slist (l : List Int) (hl : ∀ n ∈ l, -9223372036854775808 ≤ n ∧ n ≤ 9223372036854775807) (h : l.length ≤ 100000) :
    ev tab prim 36 [.list 1 (ints l) false] [[], []] = some (.tup [.str (if numsOk l then numsT l else []), .bool (numsOk l)], [[], []]) := by
  have hL := loop_find (b := L36_0) (fun i => slSt l ((l.take i).map Lib.itoa) i) l.length (fun i => int32 (l.getD i 0)) (.exit 0, { env := [(4, .list 1 ((l.map Lib.itoa).map V.str) true)], mem := [[], [], []] })
    (.ret, { env := [(2, .str []), (3, .bool false)], mem := [[], [], []] })
    (fun i hi hp => by
      have hgd : l.getD i 0 = l[i] := by simp [List.getD_eq_getElem?_getD, hi]
      rw [hgd] at hp
      obtain ⟨p1, p2⟩ := int32_iff.1 hp
      have n1 : ¬ l[i] < -2147483648 := by omega
      have n2 : ¬ 2147483647 < l[i] := by omega
      have hi1 := ev_Itoa l[i] (hl _ (List.getElem_mem hi)) [[], []]
      have w1 : IntKind.i64.wrap ((i : Int) + 1) = ((i + 1 : Nat) : Int) := by rw [wrap_small] <;> omega
      have ht : (l.take (i + 1)).map Lib.itoa = (l.take i).map Lib.itoa ++ [Lib.itoa l[i]] := by rw [List.take_succ_eq_append_getElem hi, List.map_append]; rfl
      have hm : min i l.length = i := by omega
      have b1 : i + 1 ≤ 140737488355328 := by omega
      have b2 : (i + 1) * 16 ≤ 140737488355328 := by omega
      have g1 : (i : Int) < (l.length : Int) := by omega
      rw [ht]
      unfold slSt
      simp [L36_0, ints, idxOk, hi, n1, n2, hi1, w1, hm, b1, b2, g1])
    (fun i hi hp => by
      have hgd : l.getD i 0 = l[i] := by simp [List.getD_eq_getElem?_getD, hi]
      rw [hgd] at hp
      unfold int32 at hp
      have g1 : (i : Int) < (l.length : Int) := by omega
      unfold slSt
      by_cases n1 : l[i] < -2147483648
      · simp [L36_0, ints, idxOk, hi, n1, g1]
      · have n2 : 2147483647 < l[i] := by
          by_cases h3 : l[i] ≤ 2147483647
          · have h4 : -2147483648 ≤ l[i] := by omega
            simp [h3, h4] at hp
          · omega
        simp [L36_0, ints, idxOk, hi, n1, n2, g1])
    (by unfold slSt; simp [L36_0, ints]) (by simp) (by simp)
  have hall : (∀ i, i < l.length → int32 (l.getD i 0) = true) ↔ numsOk l = true := by
    unfold numsOk
    rw [List.all_eq_true]
    refine ⟨fun h n hn => ?_, fun h i hi => ?_⟩
    · obtain ⟨i, hi, rfl⟩ := List.mem_iff_getElem.1 hn
      have := h i hi
      simpa [List.getD_eq_getElem?_getD, hi] using this
    · have := h l[i] (List.getElem_mem hi)
      simpa [List.getD_eq_getElem?_getD, hi] using this
  have hj := ev_JoinB (l.map Lib.itoa) [44] (by rw [List.length_map]; omega) (join_len2 l hl h) false [[], []]
  unfold slSt at hL
  rw [ev_fn' tab prim (f := 36) rfl _ _ rfl]
  cases h0 : l with
  | nil => simp [ints, numsOk, numsT]
  | cons m r =>
    rw [← h0]
    have hz : (((l.length : Nat) : Int) == 0) = false := by rw [beq_eq_false_iff_ne, h0]; simp; omega
    have hne : l.isEmpty = false := by rw [h0]; rfl
    by_cases ho : numsOk l = true
    · rw [if_pos (hall.2 ho)] at hL
      have hT : numsT l = Lib.join (l.map Lib.itoa) [44] := by unfold numsT; rw [hne]; rfl
      rw [ho, hT]
      generalize Lib.join (l.map Lib.itoa) [44] = t at *
      simp only [Int.cast_ofNat_Int] at hL
      simp [ints] at hL
      simp at hj
      simp [ints, hz, hL, hj]
    · rw [if_neg (fun h => ho (hall.1 h))] at hL
      have ho' : numsOk l = false := by simpa using ho
      rw [ho']
      simp only [Int.cast_ofNat_Int] at hL
      simp [ints] at hL
      simp [ints, hz, hL]

end Go.Proofs.YtpmpofcokkgfdaaGreatDoor.Ev
