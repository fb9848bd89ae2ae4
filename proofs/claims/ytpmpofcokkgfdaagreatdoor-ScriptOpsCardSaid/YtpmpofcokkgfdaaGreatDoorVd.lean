/- The law ScriptOps, of arguments of their types. -/
import Derived.Test.YtpmpofcokkgfdaaGreatDoorVc
namespace Go.Proofs.YtpmpofcokkgfdaaGreatDoor.Ev
open Go
attribute [local irreducible] TyC
set_option linter.constructorNameAsVariable false

theorem rep_str {K : Know} (b : ByteArray) : Rep K (.string b) (.str b.data.toList) := by
  have : Rep K (.string ⟨b.data.toList.toArray⟩) (.str b.data.toList) := .str _
  simpa using this
theorem wf64 {n : Int} (h : (Lit.int .i64 n).wf = true) : -9223372036854775808 ≤ n ∧ n ≤ 9223372036854775807 := by
  have e1 : IntKind.i64.min = -9223372036854775808 := rfl
  have e2 : IntKind.i64.max = 9223372036854775807 := rfl
  simp [Lit.wf, e1, e2] at h
  exact h
theorem tyInts {n : Nat} {xs : List V} (h : TyC Tryz.prog (n + 2) 22 xs) : ∃ l : List Int, xs = [.list 1 (ints l) false] ∧ ∀ x ∈ l, -9223372036854775808 ≤ x ∧ x ≤ 9223372036854775807 := by
  rw [TyC] at h; simp only [Tryz.underlying22] at h
  obtain ⟨ys, rfl, hl, hy⟩ := h
  obtain ⟨l, rfl, hn, hp⟩ := row_of (V.int .i64) (fun x => (Lit.int .i64 x).wf = true) (ys := ys) fun y hm => by
    obtain ⟨cs, h1, h2⟩ := hy y hm
    simp only [Tryz.underlying3] at h2
    obtain ⟨s, rfl, w⟩ := tyInt h1
    injection h2 with h2 _
    exact ⟨s, h2.symm, w⟩
  exact ⟨l, by rw [show Tryz.prog.cellsOf 3 = _ from by kernel_rfl]; rfl, fun x hx => wf64 (hp x hx)⟩
theorem tyOp {n : Nat} {xs : List V} (h : TyC Tryz.prog (n + 3) 24 xs) : ∃ o : Sop, V.agg xs = o.v ∧ (-9223372036854775808 ≤ o.n ∧ o.n ≤ 9223372036854775807) ∧ (∀ n ∈ o.l, -9223372036854775808 ≤ n ∧ n ≤ 9223372036854775807) ∧ ∀ n ∈ o.m, -9223372036854775808 ≤ n ∧ n ≤ 9223372036854775807 := by
  rw [TyC] at h; simp only [Tryz.underlying24] at h
  change TyFs (TyC Tryz.prog (n + 2)) [3, 9, 9, 3, 22, 22] _ at h
  obtain ⟨x1, r1, rfl, h1, y1, r2, rfl, h2, y2, r3, rfl, h3, y3, r4, rfl, h4, y4, r5, rfl, h5, y5, r6, rfl, h6, rfl⟩ := h
  obtain ⟨k, rfl, w1⟩ := tyInt h1
  obtain ⟨a, rfl, w2⟩ := tyStr h2
  obtain ⟨b, rfl, w3⟩ := tyStr h3
  obtain ⟨m, rfl, w4⟩ := tyInt h4
  obtain ⟨l, rfl, w5⟩ := tyInts h5
  obtain ⟨q, rfl, w6⟩ := tyInts h6
  exact ⟨⟨k, a, b, m, l, q⟩, rfl, wf64 w4, w5, w6⟩
theorem ev_lawOpsS' {xs : List V} (hx : TyC Tryz.prog 6 24 xs) (s : List UInt8) : ev tab prim 3 [.agg xs, .str s] [[], []] = some (.bool true, [[], []]) := by
  obtain ⟨o, eo, h1, h2, h3⟩ := tyOp hx
  rw [eo]
  exact ev_lawOps o s h1 h2 h3
end Go.Proofs.YtpmpofcokkgfdaaGreatDoor.Ev
