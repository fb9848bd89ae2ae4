/- Plain facts: what stands between separators; numbers as texts. -/
import Derived.Test.YtpmpofcokkgfdaaGreatDoorPr
import Derived.Lib.SplitLaws
namespace Go.Proofs.YtpmpofcokkgfdaaGreatDoor.Ev
open Go

def isSep (b : UInt8) : Bool := b == 32 || b == 10
def int32 (n : Int) : Bool := decide (-2147483648 ≤ n) && decide (n ≤ 2147483647)
def plainT (s : List UInt8) : Bool := !s.isEmpty && !s.any isSep
theorem wrap_u8b (z : Int) : IntKind.u8.wrap z = z % 256 := rfl

/-! ### What stands between blanks -/
def cutB (c : UInt8) : List UInt8 → List (List UInt8)
  | [] => [[]]
  | b :: r => if b = c then [] :: cutB c r else match cutB c r with
    | [] => [[b]]
    | w :: ws => (b :: w) :: ws

theorem cutB_ne (c : UInt8) : ∀ s, cutB c s ≠ []
  | [] => by simp [cutB]
  | b :: r => by
    unfold cutB
    split
    · simp
    · cases cutB c r <;> simp

theorem splitK_cons (c b : UInt8) (hb : b ≠ c) (r : List UInt8) (k : Nat) : Lib.splitK [c] 0 k (b :: r) = match Lib.splitK [c] 0 k r with
    | [] => [[b]]
    | w :: ws => (b :: w) :: ws := by
  cases k with
  | zero => rfl
  | succ k =>
    have hp : ([c] : List UInt8).isPrefixOf (b :: r) = false := by simp [List.isPrefixOf, Ne.symm hb]
    have hix : Lib.index (b :: r) [c] = if Lib.index r [c] == -1 then -1 else Lib.index r [c] + 1 := by rw [Lib.index, hp]; simp
    simp only [Lib.splitK]
    by_cases hm : Lib.index r [c] = -1
    · rw [hix]
      simp [hm]
    · have hge := Lib.index_ge r [c]
      obtain ⟨j, hj⟩ : ∃ j : Nat, Lib.index r [c] = j := ⟨(Lib.index r [c]).toNat, by omega⟩
      have hm' : (Lib.index r [c] == -1) = false := by simpa using hm
      rw [hix, hm', hj]
      have e1 : (((j : Int) + 1) == -1) = false := by rw [beq_eq_false_iff_ne]; omega
      have e2 : ((j : Int) == -1) = false := by rw [beq_eq_false_iff_ne]; omega
      have e3 : ((j : Int) + 1).toNat = j + 1 := by omega
      have e4 : ((j : Int)).toNat = j := by omega
      simp [e1, e2, e3, e4]

theorem split_cutB (c : UInt8) : ∀ s : List UInt8, Lib.split s [c] = cutB c s
  | [] => rfl
  | b :: r => by
    have ih := split_cutB c r
    unfold Lib.split at ih ⊢
    unfold cutB
    by_cases hb : b = c
    · subst hb
      rw [if_pos rfl, Lib.count_cons_eq, Nat.add_comm 1]
      have hix : Lib.index (b :: r) [b] = 0 := by rw [Lib.index]; simp [List.isPrefixOf]
      simp only [Lib.splitK, hix]
      rw [if_neg (by decide), ← ih]
      simp
    · rw [if_neg hb, Lib.count_cons_ne b c r hb, splitK_cons c b hb r, ih]

theorem cutB_len (c : UInt8) : ∀ s : List UInt8, ∀ w ∈ cutB c s, w.length ≤ s.length
  | [], w, h => by simp [cutB] at h; simp [h]
  | b :: r, w, h => by
    have ih := cutB_len c r
    unfold cutB at h
    split at h
    · rcases List.mem_cons.1 h with rfl | h
      · simp
      · have := ih w h; simp; omega
    · cases hc : cutB c r with
      | nil => exact absurd hc (cutB_ne c r)
      | cons w0 ws =>
        rw [hc] at h ih
        rcases List.mem_cons.1 h with rfl | h
        · have := ih w0 (by simp); simp; omega
        · have := ih w (by simp [h]); simp; omega

theorem cutB_count (c : UInt8) : ∀ s : List UInt8, (cutB c s).length ≤ s.length + 1
  | [] => by simp [cutB]
  | b :: r => by
    have ih := cutB_count c r
    unfold cutB
    split
    · simp; omega
    · cases hc : cutB c r with
      | nil => exact absurd hc (cutB_ne c r)
      | cons w0 ws => rw [hc] at ih; simp at ih ⊢; omega

theorem cutB_plain (c : UInt8) : ∀ w : List UInt8, c ∉ w → cutB c w = [w]
  | [], _ => rfl
  | b :: r, h => by
    simp only [List.mem_cons, not_or] at h
    unfold cutB
    rw [if_neg (fun h2 => h.1 h2.symm), cutB_plain c r h.2]

theorem cutB_app (c : UInt8) : ∀ (w s : List UInt8), c ∉ w → cutB c (w ++ c :: s) = w :: cutB c s
  | [], s, _ => by simp [cutB]
  | b :: r, s, h => by
    simp only [List.mem_cons, not_or] at h
    rw [List.cons_append]
    conv => lhs; unfold cutB
    rw [if_neg (fun h2 => h.1 h2.symm), cutB_app c r s h.2]

theorem cutB_join (c : UInt8) : ∀ (ws : List (List UInt8)), ws ≠ [] → (∀ w ∈ ws, c ∉ w) → cutB c (Lib.join ws [c]) = ws
  | [], h, _ => absurd rfl h
  | [w], _, h => by rw [Lib.join_one]; exact cutB_plain c w (h w (by simp))
  | w :: x :: r, _, h => by
    have ih := cutB_join c (x :: r) (by simp) (fun y hy => h y (by simp [hy]))
    have e : Lib.join (w :: x :: r) [c] = w ++ c :: Lib.join (x :: r) [c] := by
      rw [Lib.join_cons, Lib.join_cons]
      simp [Lib.joinTail]
    rw [e, cutB_app c w _ (h w (by simp)), ih]


theorem itoa_len (n : Int) (h : -9223372036854775808 ≤ n ∧ n ≤ 9223372036854775807) : (Lib.itoa n).length ≤ 2000 := by
  have nd : ∀ k u : Nat, u < 10 ^ (k + 1) → Lib.nDigits u ≤ k + 1 := by
    intro k
    induction k with
    | zero => intro u hu; rw [Lib.nDigits_small (by simpa using hu)]; exact Nat.le_refl _
    | succ k ih =>
      intro u hu
      by_cases h : u < 10
      · rw [Lib.nDigits_small h]; omega
      · rw [Lib.nDigits_big h]
        have := ih (u / 10) (by rw [Nat.pow_succ] at hu; omega)
        omega
  have key : ∀ u : Nat, u < 10 ^ 20 → Lib.nDigits u ≤ 20 := fun u hu => nd 19 u hu
  unfold Lib.itoa
  split
  · rw [List.length_cons, Lib.decDigits_length]
    have := key n.natAbs (by omega)
    omega
  · rw [Lib.decDigits_length]
    have := key n.toNat (by omega)
    omega


theorem dig_step (u : Nat) (h : ¬ u < 10) : Lib.decDigits u = Lib.decDigits (u / 10) ++ [UInt8.ofNat (48 + u % 10)] := by
  rw [Lib.decDigits, dif_neg h]
theorem dig_small (u : Nat) (h : u < 10) : Lib.decDigits u = [UInt8.ofNat (48 + u)] := by
  rw [Lib.decDigits, dif_pos h]


theorem nd_le : ∀ k u : Nat, u < 10 ^ (k + 1) → Lib.nDigits u ≤ k + 1
  | 0, u, hu => by rw [Lib.nDigits_small (by simpa using hu)]; exact Nat.le_refl _
  | k + 1, u, hu => by
    by_cases h : u < 10
    · rw [Lib.nDigits_small h]; omega
    · rw [Lib.nDigits_big h]
      have := nd_le k (u / 10) (by rw [Nat.pow_succ] at hu; omega)
      omega

theorem unbyte_map : ∀ r : List UInt8, unbyte (r.map byteV) = some r
  | [] => rfl
  | x :: r => by
    rw [List.map_cons, byteV, unbyte, unbyte_map r]
    simp


/-! ### A number in its one form -/
def isDig (b : UInt8) : Bool := decide (48 ≤ b.toNat) && decide (b.toNat ≤ 57)
def digN : Nat → List UInt8 → Nat
  | acc, [] => acc
  | acc, b :: r => digN (10 * acc + (b.toNat - 48)) r
def numT (w : List UInt8) : List UInt8 := if 1 < w.length ∧ w.headD 0 = 45 then w.drop 1 else w
def numN (w : List UInt8) : Int := if w.headD 0 = 45 then -(digN 0 (numT w) : Int) else (digN 0 (numT w) : Int)
def numOk (lo hi : Int) (w : List UInt8) : Bool := !(numT w).isEmpty && decide ((numT w).length ≤ 12) && (numT w).all isDig && (Lib.itoa (numN w) == w) && (decide (lo ≤ numN w) && decide (numN w ≤ hi))
def numV (lo hi : Int) (w : List UInt8) : Int × Bool := bif numOk lo hi w then (numN w, true) else (0, false)

theorem digN_lt (t : List UInt8) : ∀ (acc k : Nat), (∀ b ∈ t, isDig b = true) → acc < 10 ^ k → digN acc t < 10 ^ (k + t.length) := by
  induction t with
  | nil => intro acc k _ h; exact h
  | cons b r ih =>
    intro acc k hd h
    have hb := hd b (by simp)
    simp only [isDig, Bool.and_eq_true, decide_eq_true_eq] at hb
    have h2 : 10 * acc + (b.toNat - 48) < 10 ^ (k + 1) := by
      rw [Nat.pow_succ]
      generalize 10 ^ k = q at *
      omega
    have h3 := ih (10 * acc + (b.toNat - 48)) (k + 1) (fun x hx => hd x (by simp [hx])) h2
    have e : k + (b :: r).length = k + 1 + r.length := by simp; omega
    rw [e]
    exact h3


/-! ### Digits -/
theorem dg_nat {k : Nat} (h : k < 10) : (UInt8.ofNat (48 + k)).toNat = 48 + k := by
  rw [UInt8.toNat_ofNat']; omega
theorem dg_dig {k : Nat} (h : k < 10) : isDig (UInt8.ofNat (48 + k)) = true := by
  unfold isDig
  rw [dg_nat h]
  simp; omega

theorem digs_dig : ∀ (n u : Nat), u = n → ∀ b ∈ Lib.decDigits u, isDig b = true := by
  intro n
  induction n using Nat.strongRecOn with
  | ind n ih =>
    intro u hu b hb
    subst hu
    by_cases h : u < 10
    · rw [dig_small u h] at hb
      obtain rfl := List.mem_singleton.1 hb
      exact dg_dig h
    · rw [dig_step u h] at hb
      rcases List.mem_append.1 hb with hb | hb
      · exact ih (u / 10) (by omega) (u / 10) rfl b hb
      · obtain rfl := List.mem_singleton.1 hb
        exact dg_dig (by omega)

theorem digs_ne (u : Nat) : Lib.decDigits u ≠ [] := by
  intro h
  have := Lib.decDigits_length u
  rw [h] at this
  have := Lib.nDigits_pos u
  simp at *
  omega

theorem parse_digs : ∀ (n u : Nat), u = n → u < 1000000000000000000 → ∀ r, Lib.parseUint10 0 (Lib.decDigits u ++ r) = Lib.parseUint10 u r := by
  intro n
  induction n using Nat.strongRecOn with
  | ind n ih =>
    intro u hu hl r
    subst hu
    have one : ∀ (a k : Nat) (r : List UInt8), k < 10 → a < 1000000000000000000 → Lib.parseUint10 a (UInt8.ofNat (48 + k) :: r) = Lib.parseUint10 (a * 10 + k) r := by
      intro a k r hk ha
      unfold Lib.parseUint10
      rw [dg_nat hk, if_pos (by omega), if_neg (by omega), if_neg (by omega), show 48 + k - 48 = k by omega]
      cases r <;> rfl
    by_cases h : u < 10
    · rw [dig_small u h, List.singleton_append, one 0 u r h (by omega)]
      rw [Nat.zero_mul, Nat.zero_add]
    · rw [dig_step u h, List.append_assoc, ih (u / 10) (by omega) (u / 10) rfl (by omega), List.singleton_append, one (u / 10) (u % 10) r (by omega) (by omega), show u / 10 * 10 + u % 10 = u by omega]

theorem digN_digs : ∀ (n u : Nat), u = n → ∀ r, digN 0 (Lib.decDigits u ++ r) = digN u r := by
  intro n
  induction n using Nat.strongRecOn with
  | ind n ih =>
    intro u hu r
    subst hu
    have one : ∀ (a k : Nat) (r : List UInt8), k < 10 → digN a (UInt8.ofNat (48 + k) :: r) = digN (10 * a + k) r := by
      intro a k r hk
      show digN (10 * a + ((UInt8.ofNat (48 + k)).toNat - 48)) r = _
      rw [dg_nat hk, show 48 + k - 48 = k by omega]
    by_cases h : u < 10
    · rw [dig_small u h, List.singleton_append, one 0 u r h]
      rw [Nat.mul_zero, Nat.zero_add]
    · rw [dig_step u h, List.append_assoc, ih (u / 10) (by omega) (u / 10) rfl, List.singleton_append, one (u / 10) (u % 10) r (by omega), show 10 * (u / 10) + u % 10 = u by omega]

theorem digs_head (u : Nat) : ∃ b r, Lib.decDigits u = b :: r ∧ isDig b = true := by
  cases h : Lib.decDigits u with
  | nil => exact absurd h (digs_ne u)
  | cons b r => exact ⟨b, r, rfl, digs_dig u u rfl b (by rw [h]; simp)⟩

/-- Each byte of a number is a digit, or the sign. -/
theorem itoa_bytes (n : Int) : ∀ b ∈ Lib.itoa n, b = 45 ∨ isDig b = true := by
  intro b hb
  unfold Lib.itoa at hb
  split at hb
  · rcases List.mem_cons.1 hb with rfl | hb
    · exact .inl rfl
    · exact .inr (digs_dig _ _ rfl b hb)
  · exact .inr (digs_dig _ _ rfl b hb)
theorem itoa_ne (n : Int) : Lib.itoa n ≠ [] := by
  unfold Lib.itoa
  split
  · simp
  · exact digs_ne _

theorem int32_iff {n : Int} : int32 n = true ↔ -2147483648 ≤ n ∧ n ≤ 2147483647 := by
  unfold int32
  simp

theorem atoiV_itoa {n : Int} (h : int32 n = true) : atoiV (Lib.itoa n) = (n, false) := by
  obtain ⟨h1, h2⟩ := int32_iff.1 h
  have key : Lib.atoiAll (Lib.itoa n) = .ok n := by
    unfold Lib.itoa
    by_cases h0 : n < 0
    · rw [if_pos h0]
      have hp : Lib.parseMag (Lib.decDigits n.natAbs) = .ok n.natAbs := by
        unfold Lib.parseMag
        rw [if_neg (digs_ne _)]
        have := parse_digs n.natAbs n.natAbs rfl (by omega) []
        rw [List.append_nil] at this
        rw [this]
        rfl
      unfold Lib.atoiAll
      simp only [show (45 : UInt8).toNat = 45 from rfl, or_true, if_true, hp, not_true, false_and, if_false, true_and]
      rw [if_neg (by omega)]
      congr 1
      omega
    · rw [if_neg h0]
      obtain ⟨b, r, hb, hd⟩ := digs_head n.toNat
      have hp : Lib.parseMag (Lib.decDigits n.toNat) = .ok n.toNat := by
        unfold Lib.parseMag
        rw [if_neg (digs_ne _)]
        have := parse_digs n.toNat n.toNat rfl (by omega) []
        rw [List.append_nil] at this
        rw [this]
        rfl
      rw [hb] at hp ⊢
      unfold isDig at hd
      simp only [Bool.and_eq_true, decide_eq_true_eq] at hd
      have e1 : ¬ b.toNat = 45 := by omega
      have e2 : ¬ (b.toNat = 43 ∨ b.toNat = 45) := by omega
      unfold Lib.atoiAll
      have e3 : ¬ 9223372036854775808 ≤ n.toNat := by omega
      have e4 : ((n.toNat : Nat) : Int) = n := by omega
      have e0 : ¬ b.toNat = 43 := by omega
      simp [e0, e1, hp, e3, e4]
  unfold atoiV
  rw [key]

theorem numV_itoa {n lo hi : Int} (h : int32 n = true) (hlo : lo ≤ n) (hhi : n ≤ hi) : numV lo hi (Lib.itoa n) = (n, true) := by
  obtain ⟨h1, h2⟩ := int32_iff.1 h
  have hT : numT (Lib.itoa n) = Lib.decDigits n.natAbs := by
    unfold Lib.itoa numT
    by_cases h0 : n < 0
    · rw [if_pos h0, if_pos]
      · rfl
      · refine ⟨?_, rfl⟩
        have := Lib.decDigits_length n.natAbs
        have := Lib.nDigits_pos n.natAbs
        simp; omega
    · rw [if_neg h0, show n.natAbs = n.toNat by omega]
      obtain ⟨b, r, hb, hd⟩ := digs_head n.toNat
      rw [hb]
      rw [if_neg]
      rintro ⟨_, h3⟩
      rw [List.headD_cons] at h3
      rw [h3] at hd
      exact absurd hd (by decide)
  have hN : numN (Lib.itoa n) = n := by
    unfold numN
    rw [hT]
    have := digN_digs n.natAbs n.natAbs rfl []
    rw [List.append_nil] at this
    have e : digN 0 (Lib.decDigits n.natAbs) = n.natAbs := this
    rw [e]
    unfold Lib.itoa
    by_cases h0 : n < 0
    · rw [if_pos h0, List.headD_cons, if_pos rfl]; omega
    · rw [if_neg h0]
      obtain ⟨b, r, hb, hd⟩ := digs_head n.toNat
      rw [hb, if_neg]
      · omega
      · intro h3
        rw [List.headD_cons] at h3
        rw [h3] at hd
        exact absurd hd (by decide)
  have hok : numOk lo hi (Lib.itoa n) = true := by
    unfold numOk
    rw [hN, hT, decide_eq_true hlo, decide_eq_true hhi]
    have e1 : (Lib.decDigits n.natAbs).isEmpty = false := by simpa using digs_ne n.natAbs
    have e2 : (Lib.decDigits n.natAbs).length ≤ 12 := by
      rw [Lib.decDigits_length]
      have := nd_le 9 n.natAbs (by omega)
      omega
    have e3 : (Lib.decDigits n.natAbs).all isDig = true := List.all_eq_true.2 (digs_dig _ _ rfl)
    rw [e1, e3, decide_eq_true e2]
    simp
  unfold numV
  rw [hok, hN]
  rfl



theorem itoa_no (n : Int) (c : UInt8) (h1 : c ≠ 45) (h2 : isDig c = false) : c ∉ Lib.itoa n := fun h => by
  rcases itoa_bytes n c h with h3 | h3
  · exact h1 h3
  · rw [h2] at h3; cases h3
theorem itoa_sign (n : Int) (r : List UInt8) : Lib.itoa n ++ r ≠ [45] := by
  intro h
  unfold Lib.itoa at h
  split at h
  · have := digs_ne n.natAbs
    cases hd : Lib.decDigits n.natAbs with
    | nil => exact this hd
    | cons b q => rw [hd] at h; simp at h
  · obtain ⟨b, q, hb, hd⟩ := digs_head n.toNat
    rw [hb] at h
    simp at h
    rw [h.1] at hd
    exact absurd hd (by decide)

end Go.Proofs.YtpmpofcokkgfdaaGreatDoor.Ev
