/- The law ClassTurned, of what arguments of its types come to. -/
import Derived.Test.YtgmlanhhjmhmmaaGreatTe
namespace Go.Proofs.YtgmlanhhjmhmmaaGreat.Ev
open Go
attribute [local irreducible] TyC

theorem byte_of {m : Int} (hw : (Lit.int .u8 m).wf = true) : ∃ b : UInt8, V.int .u8 m = byteV b := by
  have e1 : IntKind.u8.min = 0 := rfl
  have e2 : IntKind.u8.max = 255 := rfl
  have hm : 0 ≤ m ∧ m ≤ 255 := by simpa [Lit.wf, e1, e2] using hw
  refine ⟨m.toNat.toUInt8, ?_⟩
  have : (m.toNat.toUInt8).toNat = m.toNat := by
    rw [Nat.toUInt8, UInt8.toNat_ofNat']
    omega
  unfold byteV
  rw [this, Int.toNat_of_nonneg hm.1]

theorem ev_lawTurned' {xs : List V} (hx : TyC Tryz.prog 6 26 xs) (pl x : Int) (hw : (Lit.int .u8 x).wf = true) : ev tab prim 5 [.agg xs, .int .i64 pl, .int .u8 x] [[], []] = some (.bool true, [[], []]) := by
  obtain ⟨a, ea, ha⟩ := tyCls hx
  obtain ⟨b, hb⟩ := byte_of hw
  rw [ea, hb]
  exact ev_lawTurned a ha pl b

end Go.Proofs.YtgmlanhhjmhmmaaGreat.Ev
