/- Words of a line; the word's operation; asm.ParseLine. -/
import Derived.Test.YtgmlanhhjmhmmaaDoorYe
import Derived.Lib.SplitLaws
namespace Go.Proofs.YtgmlanhhjmhmmaaDoor.Ev
open Go

/-! ### What stands between blanks -/
def cutV : List UInt8 → List (List UInt8)
  | [] => [[]]
  | b :: r => if b = 32 then [] :: cutV r else match cutV r with
    | [] => [[b]]
    | w :: ws => (b :: w) :: ws

theorem cutV_ne : ∀ s, cutV s ≠ []
  | [] => by simp [cutV]
  | b :: r => by
    unfold cutV
    split
    · simp
    · cases cutV r <;> simp

theorem splitK_cons (c b : UInt8) (hb : b ≠ c) (r : List UInt8) (k : Nat) : Lib.splitK [c] 0 k (b :: r) = match Lib.splitK [c] 0 k r with
    | [] => [[b]]
    | w :: ws => (b :: w) :: ws := by
  cases k with
  | zero => rfl
  | succ k =>
    have hp : ([c] : List UInt8).isPrefixOf (b :: r) = false := by simp [List.isPrefixOf, Ne.symm hb]
    have hix : Lib.index (b :: r) [c] = if Lib.index r [c] == -1 then -1 else Lib.index r [c] + 1 := by rw [Lib.index, hp]; simp
    simp only [Lib.splitK]
    by_cases hm : Lib.index r [c] = -1
    · rw [hix]
      simp [hm]
    · have hge := Lib.index_ge r [c]
      obtain ⟨j, hj⟩ : ∃ j : Nat, Lib.index r [c] = j := ⟨(Lib.index r [c]).toNat, by omega⟩
      have hm' : (Lib.index r [c] == -1) = false := by simpa using hm
      rw [hix, hm', hj]
      have e1 : (((j : Int) + 1) == -1) = false := by rw [beq_eq_false_iff_ne]; omega
      have e2 : ((j : Int) == -1) = false := by rw [beq_eq_false_iff_ne]; omega
      have e3 : ((j : Int) + 1).toNat = j + 1 := by omega
      have e4 : ((j : Int)).toNat = j := by omega
      simp [e1, e2, e3, e4]

theorem split_cutV : ∀ s : List UInt8, Lib.split s [32] = cutV s
  | [] => by decide
  | b :: r => by
    have ih := split_cutV r
    unfold Lib.split at ih ⊢
    unfold cutV
    by_cases hb : b = 32
    · subst hb
      rw [if_pos rfl, Lib.count_cons_eq, Nat.add_comm 1]
      have hix : Lib.index (32 :: r) [32] = 0 := by rw [Lib.index]; simp [List.isPrefixOf]
      simp only [Lib.splitK, hix]
      rw [if_neg (by decide), ← ih]
      simp
    · rw [if_neg hb, Lib.count_cons_ne b 32 r hb, splitK_cons 32 b hb r, ih]

theorem cutV_len : ∀ s : List UInt8, ∀ w ∈ cutV s, w.length ≤ s.length
  | [], w, h => by simp [cutV] at h; simp [h]
  | b :: r, w, h => by
    have ih := cutV_len r
    unfold cutV at h
    split at h
    · rcases List.mem_cons.1 h with rfl | h
      · simp
      · have := ih w h; simp; omega
    · cases hc : cutV r with
      | nil => exact absurd hc (cutV_ne r)
      | cons w0 ws =>
        rw [hc] at h ih
        rcases List.mem_cons.1 h with rfl | h
        · have := ih w0 (by simp); simp; omega
        · have := ih w (by simp [h]); simp; omega

theorem cutV_plain : ∀ w : List UInt8, (32 : UInt8) ∉ w → cutV w = [w]
  | [], _ => rfl
  | b :: r, h => by
    simp only [List.mem_cons, not_or] at h
    unfold cutV
    rw [if_neg (fun h2 => h.1 h2.symm), cutV_plain r h.2]

theorem cutV_app : ∀ (w s : List UInt8), (32 : UInt8) ∉ w → cutV (w ++ 32 :: s) = w :: cutV s
  | [], s, _ => by simp [cutV]
  | b :: r, s, h => by
    simp only [List.mem_cons, not_or] at h
    rw [List.cons_append]
    conv => lhs; unfold cutV
    rw [if_neg (fun h2 => h.1 h2.symm), cutV_app r s h.2]

theorem cutV_join : ∀ (ws : List (List UInt8)), ws ≠ [] → (∀ w ∈ ws, (32 : UInt8) ∉ w) → cutV (Lib.join ws [32]) = ws
  | [], h, _ => absurd rfl h
  | [w], _, h => by rw [Lib.join_one]; exact cutV_plain w (h w (by simp))
  | w :: x :: r, _, h => by
    have ih := cutV_join (x :: r) (by simp) (fun y hy => h y (by simp [hy]))
    have e : Lib.join (w :: x :: r) [32] = w ++ 32 :: Lib.join (x :: r) [32] := by
      rw [Lib.join_cons, Lib.join_cons]
      simp [Lib.joinTail]
    rw [e, cutV_app w _ (h w (by simp)), ih]

/-! ### Which operation has a word -/
def opOfV (w : List UInt8) : Int := match (List.range 39).find? (fun n : Nat => inR (n : Int) && wordOf (n : Int) == w) with
  | some n => (n : Int)
  | none => 0

theorem opOfV_cases (w : List UInt8) : (∃ n : Nat, 1 ≤ n ∧ n ≤ 38 ∧ opOfV w = n ∧ wordOf (n : Int) = w ∧ inR (n : Int) = true ∧ ∀ k : Nat, 1 ≤ k → k ≤ 38 → k ≠ n → wordOf (k : Int) ≠ w) ∨ (opOfV w = 0 ∧ ∀ k : Nat, 1 ≤ k → k ≤ 38 → wordOf (k : Int) ≠ w) := by
  unfold opOfV
  cases hf : (List.range 39).find? (fun n : Nat => inR (n : Int) && wordOf (n : Int) == w) with
  | some n =>
    have h1 := List.find?_some hf
    simp only [Bool.and_eq_true, beq_iff_eq] at h1
    have h2 : 1 ≤ (n : Int) ∧ (n : Int) ≤ 38 := by have := h1.1; simpa [inR] using this
    refine .inl ⟨n, by omega, by omega, rfl, h1.2, h1.1, fun k hk1 hk2 hkn he => hkn ?_⟩
    have hk : inR (k : Int) = true := by simp [inR]; omega
    have := words hk h1.1
    rw [he, h1.2] at this
    have h3 : ((k : Int) == (n : Int)) = true := by rw [← this]; simp
    have := beq_iff_eq.1 h3
    omega
  | none =>
    refine .inr ⟨rfl, fun k hk1 hk2 he => ?_⟩
    have := List.find?_eq_none.1 hf k (List.mem_range.2 (by omega))
    have hk : inR (k : Int) = true := by simp [inR]; omega
    simp [hk, he] at this

theorem opOfV_word {a : Int} (h : inR a = true) : opOfV (wordOf a) = a := by
  have h2 : 1 ≤ a ∧ a ≤ 38 := by simpa [inR] using h
  rcases opOfV_cases (wordOf a) with ⟨n, _, _, h3, h4, h5, _⟩ | ⟨_, h4⟩
  · rw [h3]
    have := words h5 h
    rw [h4] at this
    have h6 : ((n : Int) == a) = true := by rw [← this]; simp
    exact beq_iff_eq.1 h6
  · have := h4 a.toNat (by omega) (by omega)
    rw [Int.toNat_of_nonneg (by omega)] at this
    exact absurd rfl this

theorem ev_opOf (w : List UInt8) : ev tab prim 17 [.str w] [[], []] = some (.int .i64 (opOfV w), [[], []]) := by
  have step : ∀ i : Nat, 1 ≤ i → i ≤ 38 → cv tab prim L17_0 { env := [(0, .str w), (3, .int .i64 i)], mem := [[], [], []] } =
      if wordOf (i : Int) = w then some (.ret, { env := [(2, .int .i64 i)], mem := [[], [], []] }) else some (.normal, { env := [(0, .str w), (3, .int .i64 ((i + 1 : Nat) : Int))], mem := [[], [], []] }) := by
    intro i h1 h2
    have hw := ev26 (i : Int)
    have w1 : IntKind.i64.wrap ((i : Int) + 1) = ((i + 1 : Nat) : Int) := by rw [wrap_small] <;> omega
    have h3 : (i : Int) ≤ 38 := by omega
    by_cases he : wordOf (i : Int) = w
    · rw [if_pos he]
      have e : (wordOf (i : Int) == w) = true := by simpa using he
      generalize wordOf (i : Int) = z at *
      simp [L17_0, h3, hw, e]
    · rw [if_neg he]
      have e : (wordOf (i : Int) == w) = false := by simpa using he
      generalize wordOf (i : Int) = z at *
      simp [L17_0, h3, hw, e, w1]
  have run : ∀ (k i : Nat), 1 ≤ i → i + k ≤ 39 → (∀ j, i ≤ j → j < i + k → wordOf (j : Int) ≠ w) →
      cv tab prim (.loop L17_0) { env := [(0, .str w), (3, .int .i64 i)], mem := [[], [], []] } = cv tab prim (.loop L17_0) { env := [(0, .str w), (3, .int .i64 ((i + k : Nat) : Int))], mem := [[], [], []] } := by
    intro k
    induction k with
    | zero => intro i _ _ _; rfl
    | succ k ih =>
      intro i h1 h2 h3
      conv => lhs; rw [cv_loop', step i h1 (by omega), if_neg (h3 i (Nat.le_refl _) (by omega)), roundK_n]
      rw [ih (i + 1) (by omega) (by omega) (fun j hj1 hj2 => h3 j (by omega) (by omega)), show i + 1 + k = i + (k + 1) by omega]
  rcases opOfV_cases w with ⟨n, h1, h2, h3, h4, _, h5⟩ | ⟨h3, h4⟩
  · have hr := run (n - 1) 1 (Nat.le_refl _) (by omega) (fun j hj1 hj2 => h5 j hj1 (by omega) (by omega))
    rw [show 1 + (n - 1) = n by omega, cv_loop' tab prim _ { env := [(0, .str w), (3, .int .i64 (n : Int))], mem := [[], [], []] }, step n h1 h2, if_pos h4, roundK_r] at hr
    rw [h3, ev_fn' tab prim (f := 17) rfl _ _ rfl]
    simp only [Int.cast_ofNat_Int] at hr
    simp [hr]
  · have hr := run 38 1 (Nat.le_refl _) (by omega) (fun j hj1 hj2 => h4 j hj1 (by omega))
    have hl : cv tab prim (.loop L17_0) { env := [(0, .str w), (3, .int .i64 39)], mem := [[], [], []] } = some (.exit 0, { env := [], mem := [[], [], []] }) := by
      rw [cv_loop']
      simp [L17_0]
    rw [show ((1 + 38 : Nat) : Int) = 39 from rfl, hl] at hr
    rw [h3, ev_fn' tab prim (f := 17) rfl _ _ rfl]
    simp only [Int.cast_ofNat_Int] at hr
    simp [hr]

end Go.Proofs.YtgmlanhhjmhmmaaDoor.Ev
