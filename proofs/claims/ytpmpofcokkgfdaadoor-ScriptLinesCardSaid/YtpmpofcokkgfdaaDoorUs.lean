/- The Script laws, of what arguments of their types come to. -/
import Derived.Test.YtpmpofcokkgfdaaDoorUr
namespace Go.Proofs.YtpmpofcokkgfdaaDoor.Ev
open Go
attribute [local irreducible] TyC
set_option linter.constructorNameAsVariable false

theorem wf64 {n : Int} (h : (Lit.int .i64 n).wf = true) : -9223372036854775808 ≤ n ∧ n ≤ 9223372036854775807 := by
  have e1 : IntKind.i64.min = -9223372036854775808 := rfl
  have e2 : IntKind.i64.max = 9223372036854775807 := rfl
  simp [Lit.wf, e1, e2] at h
  exact h
theorem tyInts {n : Nat} {xs : List V} (h : TyC Tryd.prog (n + 2) 22 xs) : ∃ l : List Int, xs = [.list 1 (ints l) false] ∧ ∀ x ∈ l, -9223372036854775808 ≤ x ∧ x ≤ 9223372036854775807 := by
  rw [TyC] at h; simp only [Tryd.underlying22] at h
  obtain ⟨ys, rfl, hl, hy⟩ := h
  obtain ⟨l, rfl, hn, hp⟩ := row_of (V.int .i64) (fun x => (Lit.int .i64 x).wf = true) (ys := ys) fun y hm => by
    obtain ⟨cs, h1, h2⟩ := hy y hm
    simp only [Tryd.underlying3] at h2
    obtain ⟨s, rfl, w⟩ := tyInt h1
    injection h2 with h2 _
    exact ⟨s, h2.symm, w⟩
  exact ⟨l, by rw [show Tryd.prog.cellsOf 3 = _ from by kernel_rfl]; rfl, fun x hx => wf64 (hp x hx)⟩
theorem tyOp {n : Nat} {xs : List V} (h : TyC Tryd.prog (n + 3) 24 xs) : ∃ o : Sop, V.agg xs = o.v ∧ (-9223372036854775808 ≤ o.n ∧ o.n ≤ 9223372036854775807) ∧ (∀ n ∈ o.l, -9223372036854775808 ≤ n ∧ n ≤ 9223372036854775807) ∧ ∀ n ∈ o.m, -9223372036854775808 ≤ n ∧ n ≤ 9223372036854775807 := by
  rw [TyC] at h; simp only [Tryd.underlying24] at h
  change TyFs (TyC Tryd.prog (n + 2)) [3, 9, 9, 3, 22, 22] _ at h
  obtain ⟨x1, r1, rfl, h1, y1, r2, rfl, h2, y2, r3, rfl, h3, y3, r4, rfl, h4, y4, r5, rfl, h5, y5, r6, rfl, h6, rfl⟩ := h
  obtain ⟨k, rfl, w1⟩ := tyInt h1
  obtain ⟨a, rfl, w2⟩ := tyStr h2
  obtain ⟨b, rfl, w3⟩ := tyStr h3
  obtain ⟨m, rfl, w4⟩ := tyInt h4
  obtain ⟨l, rfl, w5⟩ := tyInts h5
  obtain ⟨q, rfl, w6⟩ := tyInts h6
  exact ⟨⟨k, a, b, m, l, q⟩, rfl, wf64 w4, w5, w6⟩
theorem tyEvt {n : Nat} {xs : List V} (h : TyC Tryd.prog (n + 2) 36 xs) : ∃ e : Evt, V.agg xs = e.v ∧ (-9223372036854775808 ≤ e.pc ∧ e.pc ≤ 9223372036854775807) := by
  rw [TyC] at h; simp only [Tryd.underlying36] at h
  change TyFs (TyC Tryd.prog (n + 1)) [3, 9, 3, 9] _ at h
  obtain ⟨x1, r1, rfl, h1, y1, r2, rfl, h2, y2, r3, rfl, h3, y3, r4, rfl, h4, rfl⟩ := h
  obtain ⟨k, rfl, w1⟩ := tyInt h1
  obtain ⟨a, rfl, w2⟩ := tyStr h2
  obtain ⟨b, rfl, w3⟩ := tyInt h3
  obtain ⟨c, rfl, w4⟩ := tyStr h4
  exact ⟨⟨k, a, b, c⟩, rfl, wf64 w3⟩
end Go.Proofs.YtpmpofcokkgfdaaDoor.Ev
