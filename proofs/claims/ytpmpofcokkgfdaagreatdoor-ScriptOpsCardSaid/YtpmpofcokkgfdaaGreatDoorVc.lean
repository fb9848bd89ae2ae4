/- The law ScriptOps. -/
import Derived.Test.YtpmpofcokkgfdaaGreatDoorVb
namespace Go.Proofs.YtpmpofcokkgfdaaGreatDoor.Ev
open Go

theorem parseP_sh (s : List UInt8) (hs : s.length ≤ 50000) : (parseP s).1.Sh := by
  unfold parseP
  cases h : (sizeOk s && ((candP s).line == s)) with
  | true => exact candP_sh s hs
  | false => exact zero_sh 0
theorem ev_lawOps (o : Sop) (s : List UInt8) (hn : -9223372036854775808 ≤ o.n ∧ o.n ≤ 9223372036854775807) (hl : ∀ n ∈ o.l, -9223372036854775808 ≤ n ∧ n ≤ 9223372036854775807) (hm : ∀ n ∈ o.m, -9223372036854775808 ≤ n ∧ n ≤ 9223372036854775807) :
    ev tab prim 3 [o.v, .str s] [[], []] = some (.bool true, [[], []]) := by
  have h1 := ev_smallS o
  have h2 := ev_made o
  have hw := ev_awakeS
  by_cases hz : o.size ≤ 1000
  · by_cases hq : s.length ≤ 1000
    · obtain ⟨ho, hsum⟩ := size_sh o hn hl hm hz
      obtain ⟨M1, h3⟩ := ev_sText o ho
      have h4 := ev_rTextOp o ho
      have h5 := ev_Parse s (by omega)
      have h6 := ev_ParseOp s (by omega)
      have hp := parseP_sh s (by omega)
      rw [← parse_eq] at h6
      generalize (parseP s) = r at *
      obtain ⟨p, e⟩ := r
      have h7 := ev_flat p
      have h8 := ev_SameOp p (by have := hp.ll; dsimp only at this; omega) (by have := hp.ml; dsimp only at this; omega)
      have hq' : ¬ (1000 : Int) < (s.length : Int) := by omega
      clear hp ho hsum hn hl hm hq
      generalize o.line = ln at *
      unfold Sop.v Sop.cells at *
      dsimp only at *
      rw [ev_fn' tab prim (f := 3) rfl _ _ rfl]
      simp [h1, h2, h3, h4, h5, h6, h7, h8, hw, hz, hq']
    · have hq' : (1000 : Int) < (s.length : Int) := by omega
      unfold Sop.v Sop.cells at *
      rw [ev_fn' tab prim (f := 3) rfl _ _ rfl]
      simp [h1, hw, hz, hq']
  · have hz' : decide (o.size ≤ 1000) = false := decide_eq_false hz
    unfold Sop.v Sop.cells at *
    rw [ev_fn' tab prim (f := 3) rfl _ _ rfl]
    simp [h1, hw, hz]
end Go.Proofs.YtpmpofcokkgfdaaGreatDoor.Ev
