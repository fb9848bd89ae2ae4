/- The law of instructions that are the same. -/
import Derived.Test.YtpmpofcokkgfdaaGreatDoorFd
namespace Go.Proofs.YtpmpofcokkgfdaaGreatDoor.Ev
open Go

def eq6 (o a b : Int) (c n d : List UInt8) (o' a' b' : Int) (c' n' d' : List UInt8) : Bool := o == o' && (a == a' && (b == b' && (c == c' && (n == n' && d == d'))))

theorem eq6_refl (o a b : Int) (c n d : List UInt8) : eq6 o a b c n d o a b c n d = true := by simp [eq6]
theorem eq6_comm (o a b : Int) (c n d : List UInt8) (o' a' b' : Int) (c' n' d' : List UInt8) : eq6 o' a' b' c' n' d' o a b c n d = eq6 o a b c n d o' a' b' c' n' d' := by
  unfold eq6
  rw [Bool.beq_comm (a := o'), Bool.beq_comm (a := a'), Bool.beq_comm (a := b'), Bool.beq_comm (a := c'), Bool.beq_comm (a := n'), Bool.beq_comm (a := d')]

theorem rseq6 (o a b : Int) (c n d : List UInt8) (o' a' b' : Int) (c' n' d' : List UInt8) :
    rSeq [0, 0, 0, 1, 1, 1] false [.agg [.int .i64 o, .int .i64 a, .int .i64 b, .str c, .str n, .str d], .agg [.int .i64 o', .int .i64 a', .int .i64 b', .str c', .str n', .str d']] =
      some (.bool (eq6 o a b c n d o' a' b' c' n' d')) := by
  unfold eq6
  cases h1 : o == o' <;> cases h2 : a == a' <;> cases h3 : b == b' <;> cases h4 : c == c' <;> cases h5 : n == n' <;> cases h6 : d == d' <;> simp [h1, h2, h3, h4, h5, h6]

theorem mI_mI (b : Bool) (a : Int) : mI b (mI b a) = mI b a := by cases b <;> rfl
theorem mS_mS (b : Bool) (a : List UInt8) : mS b (mS b a) = mS b a := by cases b <;> rfl

def same (o a b : Int) (c n d : List UInt8) (o' a' b' : Int) (c' n' d' : List UInt8) : Bool :=
  eq6 o (mI (rowB o 1) a) (mI (rowB o 2) b) (mS (rowB o 3) c) (mS (rowB o 4) n) (mS (rowB o 5) d) o' (mI (rowB o' 1) a') (mI (rowB o' 2) b') (mS (rowB o' 3) c') (mS (rowB o' 4) n') (mS (rowB o' 5) d')

set_option linter.constructorNameAsVariable false
theorem tInt {n : Nat} {x : List V} (h : TyC Tryz.prog (n + 1) 3 x) : ∃ m, x = [.int .i64 m] := by
  simp only [TyC, Tryz.underlying3] at h
  obtain ⟨m, h, _⟩ := h; exact ⟨m, h⟩
theorem tStr {n : Nat} {x : List V} (h : TyC Tryz.prog (n + 1) 9 x) : ∃ m, x = [.str m] := by
  simp only [TyC, Tryz.underlying9] at h
  obtain ⟨m, h, _⟩ := h; exact ⟨m, h⟩

end Go.Proofs.YtpmpofcokkgfdaaGreatDoor.Ev
