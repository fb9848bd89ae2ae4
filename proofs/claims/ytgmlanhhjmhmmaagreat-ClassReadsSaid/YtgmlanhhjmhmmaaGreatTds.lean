/- The law ClassReads, of what arguments of its types come to. -/
import Derived.Test.YtgmlanhhjmhmmaaGreatTd
namespace Go.Proofs.YtgmlanhhjmhmmaaGreat.Ev
open Go
attribute [local irreducible] TyC
set_option linter.constructorNameAsVariable false

theorem tyByte {n : Nat} {x : List V} (h : TyC Tryz.prog (n + 1) 5 x) : ∃ b : UInt8, x = [byteV b] := by
  simp only [TyC, Tryz.underlying5] at h
  obtain ⟨m, rfl, hw⟩ := h
  have e1 : IntKind.u8.min = 0 := rfl
  have e2 : IntKind.u8.max = 255 := rfl
  have hm : 0 ≤ m ∧ m ≤ 255 := by simpa [Lit.wf, e1, e2] using hw
  refine ⟨m.toNat.toUInt8, ?_⟩
  have : (m.toNat.toUInt8).toNat = m.toNat := by
    rw [Nat.toUInt8, UInt8.toNat_ofNat']
    omega
  unfold byteV
  rw [this, Int.toNat_of_nonneg hm.1]
/-- An argument of the type []byte. -/
theorem t29_row {xs : List V} (h : TyC Tryz.prog 6 29 xs) : ∃ l : List UInt8, xs = [.list 1 (l.map byteV) false] := by
  rw [TyC] at h; simp only [Tryz.underlying29] at h
  obtain ⟨ys, rfl, hl, hy⟩ := h
  obtain ⟨l, rfl, hn, hp⟩ := row_of byteV (fun _ => True) (ys := ys) fun y hm => by
    obtain ⟨cs, h1, h2⟩ := hy y hm
    simp only [Tryz.underlying5] at h2
    obtain ⟨s, rfl⟩ := tyByte h1
    injection h2 with h2 _
    exact ⟨s, h2.symm, trivial⟩
  exact ⟨l, by rw [show Tryz.prog.cellsOf 5 = _ from by kernel_rfl]⟩

theorem ev_lawReads' (b : List UInt8) {xs : List V} (hx : TyC Tryz.prog 6 26 xs) (cut : Int) : ev tab prim 4 [.list 1 (b.map byteV) false, .agg xs, .int .i64 cut] [[], []] = some (.bool true, [[], []]) := by
  obtain ⟨a, ea, ha⟩ := tyCls hx
  rw [ea]
  exact ev_lawReads b a ha cut

end Go.Proofs.YtgmlanhhjmhmmaaGreat.Ev
