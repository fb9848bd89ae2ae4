/- Keys. -/
import Derived.Test.YtgggjclhadlncaaFp
namespace Go.Proofs.Ytgggjclhadlncaa.Ev
open Go

def methOk (s : List UInt8) : Bool := (cut 40 s).2 && tailOk (prm 8 (cut 40 s).1).2
theorem methV_ok (s : List UInt8) : ∃ ps q, methV s = .tup [.list 1 (strs ps) false, .str q, .int .i64 (if methOk s = true then 0 else 6)] := by
  unfold methV methOk
  split
  · exact ⟨_, _, rfl⟩
  · exact ⟨[], [], rfl⟩

def keyV (c n d : List UInt8) : List UInt8 := if (methOk d && (nameOk c && mnameOk n)) = true then c ++ 46 :: (n ++ d) else []

set_option maxHeartbeats 4000000 in
theorem ev19 (c n d : List UInt8) (hc : c.length ≤ 100000) (hn : n.length ≤ 100000) (hd : d.length ≤ 100000) : ev tab prim 19 [.str c, .str n, .str d] [] = some (.str (keyV c n d), []) := by
  rw [ev_fn' tab prim (f := 19) rfl _ _ rfl]
  have h14 := ev14 d hd
  have h30 := ev30 c (by omega)
  have h32 := ev32 n hn
  obtain ⟨ps, q, hm⟩ := methV_ok d
  rw [hm] at h14
  have b1 : c.length + 1 ≤ 9223372036854775807 := by omega
  have b2 : c.length + 1 + n.length ≤ 9223372036854775807 := by omega
  have b3 : c.length + 1 + n.length + d.length ≤ 9223372036854775807 := by omega
  have b2' : c.length + (1 + n.length) ≤ 9223372036854775807 := by omega
  have b2'' : c.length + (n.length + 1) ≤ 9223372036854775807 := by omega
  have b3'' : c.length + (n.length + 1) + d.length ≤ 9223372036854775807 := by omega
  unfold keyV
  cases h1 : methOk d <;> rw [h1] at h14
  · simp [h14]
  · cases h2 : nameOk c <;> rw [h2] at h30
    · simp [h14, h30]
    · cases h3 : mnameOk n <;> rw [h3] at h32
      · simp [h14, h30, h32]
      · simp [h14, h30, h32, b1, b2, b3, b2', b2'', b3'']

set_option maxHeartbeats 4000000 in
theorem ev22 (c n d : List UInt8) (hc : c.length ≤ 100000) (hn : n.length ≤ 100000) (hd : d.length ≤ 100000) : ev tab prim 22 [.str c, .str n, .str d] [] = some (.str (keyV c n d), []) := by
  rw [ev_fn' tab prim (f := 22) rfl _ _ rfl]
  have h16 := ev16 d hd
  have h31 := ev31 c (by omega)
  have h33 := ev33 n hn
  obtain ⟨ps, q, hm⟩ := methV_ok d
  rw [hm] at h16
  have b1 : c.length + 1 ≤ 9223372036854775807 := by omega
  have b2 : c.length + 1 + n.length ≤ 9223372036854775807 := by omega
  have b3 : c.length + 1 + n.length + d.length ≤ 9223372036854775807 := by omega
  have b2'' : c.length + (n.length + 1) ≤ 9223372036854775807 := by omega
  have b3'' : c.length + (n.length + 1) + d.length ≤ 9223372036854775807 := by omega
  unfold keyV
  cases h2 : nameOk c <;> rw [h2] at h31
  · simp [h16, h31]
  · cases h3 : mnameOk n <;> rw [h3] at h33
    · simp [h16, h31, h33]
    · cases h1 : methOk d <;> rw [h1] at h16
      · simp [h16, h31, h33]
      · simp [h16, h31, h33, b1, b2, b3, b2'', b3'']

def isp (s : List UInt8) (c : UInt8) (i : Nat) : Prop := Lib.indexByte s c = i
def splitV (s : List UInt8) : V :=
  if Lib.indexByte s 46 < 0 ∨ Lib.indexByte s 40 < Lib.indexByte s 46 ∨
    keyV (s.take (Lib.indexByte s 46).toNat) ((s.take (Lib.indexByte s 40).toNat).drop ((Lib.indexByte s 46).toNat + 1)) (s.drop (Lib.indexByte s 40).toNat) = []
  then .tup [.str [], .str [], .str [], .int .i64 6]
  else .tup [.str (s.take (Lib.indexByte s 46).toNat), .str ((s.take (Lib.indexByte s 40).toNat).drop ((Lib.indexByte s 46).toNat + 1)), .str (s.drop (Lib.indexByte s 40).toNat), .int .i64 0]

theorem idx_at {c : UInt8} : ∀ {s : List UInt8} {i : Nat}, Lib.indexByte s c = i → s[i]? = some c := by
  intro s
  induction s with
  | nil => intro i h; simp [Lib.indexByte] at h; try omega
  | cons b l ih =>
    intro i h
    unfold Lib.indexByte at h
    by_cases hb : b = c
    · subst hb; simp at h; obtain rfl : i = 0 := by omega
      rfl
    · by_cases hk : Lib.indexByte l c = -1
      · simp [hb, hk] at h; try omega
      · simp [hb, hk] at h
        have := (idx_lt l c).2
        obtain ⟨j, rfl⟩ : ∃ j, i = j + 1 := ⟨i - 1, by omega⟩
        simpa using ih (i := j) (by omega)

theorem idx_ne {s : List UInt8} {i j : Nat} (hi : Lib.indexByte s 46 = i) (hj : Lib.indexByte s 40 = j) (h : i ≤ j) : i + 1 ≤ j := by
  have h1 := idx_at hi
  have h2 := idx_at hj
  by_cases e : i = j
  · subst e; rw [h1] at h2; cases h2
  · omega

set_option maxHeartbeats 4000000 in
theorem ev20 (s : List UInt8) (hs : s.length ≤ 100000) : ev tab prim 20 [.str s] [] = some (splitV s, []) := by
  rw [ev_fn' tab prim (f := 20) rfl _ _ rfl]
  have h46 := ev51 s 46
  have h40 := ev51 s 40
  have l1 := idx_lt s 46
  have l2 := idx_lt s 40
  have t46 : Int.toNat 46 = 46 := rfl
  have t40 : Int.toNat 40 = 40 := rfl
  unfold splitV
  by_cases g1 : Lib.indexByte s 46 < 0
  · rw [if_pos (.inl g1)]
    simp [h46, h40, g1]
  by_cases g2 : Lib.indexByte s 40 < Lib.indexByte s 46
  · rw [if_pos (.inr (.inl g2))]
    simp [h46, h40, g1, g2]
  obtain ⟨i, hi⟩ : ∃ i : Nat, Lib.indexByte s 46 = i := ⟨(Lib.indexByte s 46).toNat, by omega⟩
  obtain ⟨j, hj⟩ : ∃ j : Nat, Lib.indexByte s 40 = j := ⟨(Lib.indexByte s 40).toNat, by omega⟩
  have hij := idx_ne hi hj (by omega)
  rw [hi, hj, Int.toNat_natCast, Int.toNat_natCast]
  rw [hi] at l1 g1
  rw [hj] at l2
  rw [hi, hj] at g2
  have h19 := ev19 (s.take i) ((s.take j).drop (i + 1)) (s.drop j) (by simp; omega) (by simp; omega) (by simp; omega)
  have hw : IntKind.i64.wrap ((i : Int) + 1) = (i : Int) + 1 := wrap_small (by omega) (by omega)
  have b1 : (i : Int) ≤ (s.length : Int) := by omega
  have b2 : (j : Int) ≤ (s.length : Int) := by omega
  have b3 : (0 : Int) ≤ (i : Int) + 1 := by omega
  have b4 : (i : Int) + 1 ≤ (j : Int) := by omega
  have b5 : ((i : Int) + 1).toNat = i + 1 := by omega
  have c1 : i ≤ s.length := by omega
  have c2 : j ≤ s.length := by omega
  have hj' : Lib.indexByte s (Nat.toUInt8 40) = j := hj
  have hi' : Lib.indexByte s (Nat.toUInt8 46) = i := hi
  by_cases g3 : keyV (s.take i) ((s.take j).drop (i + 1)) (s.drop j) = []
  · rw [if_pos (.inr (.inr g3))]
    rw [g3] at h19
    simp [h46, h40, hi', hj', hi, hj, g1, g2, hw, b1, b2, b3, b4, b5, c1, c2, h19]
  · rw [if_neg (by rintro (h | h | h) <;> contradiction)]
    have g4 : (keyV (s.take i) ((s.take j).drop (i + 1)) (s.drop j)).isEmpty = false := by simpa using g3
    generalize keyV (s.take i) ((s.take j).drop (i + 1)) (s.drop j) = kk at h19 g3 g4
    simp [h46, h40, hi', hj', hi, hj, g1, g2, hw, b1, b2, b3, b4, b5, c1, c2, h19, g4]

end Go.Proofs.Ytgggjclhadlncaa.Ev
