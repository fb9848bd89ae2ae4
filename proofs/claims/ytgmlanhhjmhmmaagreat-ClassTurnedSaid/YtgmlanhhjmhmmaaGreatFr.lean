/- Keys. -/
import Derived.Test.YtgmlanhhjmhmmaaGreatFp
namespace Go.Proofs.YtgmlanhhjmhmmaaGreat.Ev
open Go

def methOk (s : List UInt8) : Bool := (cut 40 s).2 && tailOk (prm 8 (cut 40 s).1).2
theorem methV_ok (s : List UInt8) : ∃ ps q, methV s = .tup [.list 1 (strs ps) true, .str q, .int .i64 (if methOk s = true then 0 else 6)] := by
  unfold methV methOk
  split
  · exact ⟨_, _, rfl⟩
  · exact ⟨[], [], rfl⟩

def keyV (c n d : List UInt8) : List UInt8 := if (methOk d && (nameOk c && mnameOk n)) = true then c ++ 46 :: (n ++ d) else []

def isp (s : List UInt8) (c : UInt8) (i : Nat) : Prop := Lib.indexByte s c = i
def splitV (s : List UInt8) : V :=
  if Lib.indexByte s 46 < 0 ∨ Lib.indexByte s 40 < Lib.indexByte s 46 ∨
    keyV (s.take (Lib.indexByte s 46).toNat) ((s.take (Lib.indexByte s 40).toNat).drop ((Lib.indexByte s 46).toNat + 1)) (s.drop (Lib.indexByte s 40).toNat) = []
  then .tup [.str [], .str [], .str [], .int .i64 6]
  else .tup [.str (s.take (Lib.indexByte s 46).toNat), .str ((s.take (Lib.indexByte s 40).toNat).drop ((Lib.indexByte s 46).toNat + 1)), .str (s.drop (Lib.indexByte s 40).toNat), .int .i64 0]

theorem idx_at {c : UInt8} : ∀ {s : List UInt8} {i : Nat}, Lib.indexByte s c = i → s[i]? = some c := by
  intro s
  induction s with
  | nil => intro i h; simp [Lib.indexByte] at h; try omega
  | cons b l ih =>
    intro i h
    unfold Lib.indexByte at h
    by_cases hb : b = c
    · subst hb; simp at h; obtain rfl : i = 0 := by omega
      rfl
    · by_cases hk : Lib.indexByte l c = -1
      · simp [hb, hk] at h; try omega
      · simp [hb, hk] at h
        have := (idx_lt l c).2
        obtain ⟨j, rfl⟩ : ∃ j, i = j + 1 := ⟨i - 1, by omega⟩
        simpa using ih (i := j) (by omega)

theorem idx_ne {s : List UInt8} {i j : Nat} (hi : Lib.indexByte s 46 = i) (hj : Lib.indexByte s 40 = j) (h : i ≤ j) : i + 1 ≤ j := by
  have h1 := idx_at hi
  have h2 := idx_at hj
  by_cases e : i = j
  · subst e; rw [h1] at h2; cases h2
  · omega

end Go.Proofs.YtgmlanhhjmhmmaaGreat.Ev
