/- The law ClassBack: a class that may be is read as it was written. -/
import Derived.Test.YtgmlanhhjmhmmaaGreatSe
import Derived.Test.YtgmlanhhjmhmmaaGreatGd
import Derived.Test.YtgmlanhhjmhmmaaGreatGr
namespace Go.Proofs.YtgmlanhhjmhmmaaGreat.Ev
open Go

theorem eqF_map {α : Type} (f : α → α → Bool) (φ : α → α) (h : ∀ x, f x (φ x) = true) : ∀ l : List α, eqF f l (l.map φ) = true := fun l =>
  (eqF_iff f l (l.map φ)).2 ⟨by simp, fun i h1 h2 => by rw [List.getElem_map]; exact h _⟩
theorem Ins.same_pure (x : Ins) : x.same x.pure = true := by
  unfold Ins.same Ev.same Ins.pure
  dsimp only
  rw [mI_mI, mI_mI, mS_mS, mS_mS, mS_mS]
  exact eq6_refl _ _ _ _ _ _
theorem Mth.same_pure (m : Mth) : m.same m.pure = true := by
  simp [Mth.same, Mth.pure, eqF_map Ins.same Ins.pure Ins.same_pure, eqF_refl fun x _ => Hnd.eq_refl x]
theorem Cls.same_pure (c : Cls) : c.same c.pure = true := by
  simp [Cls.same, Cls.pure, eqF_refl (f := fun x y => x == y) fun (x : List UInt8) _ => beq_self_eq_true x, eqF_refl fun x _ => Fld.eq_refl x, eqF_map Mth.same Mth.pure Mth.same_pure]

def bkSt (c : Cls) (r : Env) : St := { env := (1, .cptr c.cells) :: (5, .cptr c.pure.cells) :: r, mem := [[], [], []] }

theorem bkLoop0 (c : Cls) (i : Nat) (m : Mth) (hi : i < c.ms.length) (hg : c.ms[i]? = some m) (hm : m.Wf) :
    cv tab prim (.loop L3_0) (bkSt c [(8, .int .i64 i), (9, .int .i64 0)]) = some (.exit 2, bkSt c [(8, .int .i64 i)]) := by
  have b1 : (i : Int) < (c.ms.length : Int) := by omega
  refine loop_all (fun k => bkSt c [(8, .int .i64 i), (9, .int .i64 k)]) m.code.length _ (fun k hk => ?_) ?_ (by simp)
  · have a1 : (k : Int) < (m.code.length : Int) := by omega
    have hw := wrap_succ hk hm.code
    have h1 : m.code[k]? = some m.code[k] := by simp [hk]
    have p1 := ev_Pure m.code[k]
    generalize m.code[k] = x at *
    unfold Ins.v at p1
    simp [-rSeq, bkSt, Cls.cells, Cls.pure, Mth.v, Mth.cells, Mth.pure, Ins.v, Ins.pure, L3_0, a1, b1, hw, idxOk, hg, h1, p1, rseqIns, eq6_refl]
  · simp [bkSt, Cls.cells, Cls.pure, Mth.v, Mth.cells, Mth.pure, L3_0, b1, idxOk, hg]

theorem bkLoop1 (c : Cls) (hc : c.Wf) :
    cv tab prim (.loop L3_1) (bkSt c [(8, .int .i64 0)]) = some (.exit 0, { env := [], mem := [[], [], []] }) := by
  refine loop_all (fun k => bkSt c [(8, .int .i64 k)]) c.ms.length _ (fun k hk => ?_) ?_ (by simp)
  · have a1 : (k : Int) < (c.ms.length : Int) := by omega
    have hw := wrap_succ hk hc.ms
    have h1 : c.ms[k]? = some c.ms[k] := by simp [hk]
    have hL := bkLoop0 c k c.ms[k] hk h1 (hc.mss _ (List.getElem_mem hk))
    simp only [bkSt, Cls.cells, Cls.pure] at hL ⊢
    simp [L3_1, a1, hw]
    simp at hL
    simp [hL]
    exact hw
  · simp [bkSt, Cls.cells, Cls.pure, L3_1]

set_option maxHeartbeats 4000000 in
theorem ev_lawBack (c : Cls) (hc : c.Wf) : ev tab prim 3 [c.v] [[], []] = some (.bool true, [[], []]) := by
  have h1 := ev_ClassSize c hc
  by_cases hb : 12000 < c.size
  · unfold Cls.v Cls.cells at *
    rw [ev_fn' tab prim (f := 3) rfl _ _ rfl]
    simp [h1, hb, ev_awakeP]
  have hs := c.small (by omega)
  have k2 := ev_CheckClass c hc hs
  by_cases he : c.err = 0
  · obtain ⟨M, e1⟩ := ev_Encode_ok c hc hs he
    obtain ⟨M', e2⟩ := ev_Dec c.bytes false (c.bytes_le (by omega) (c.ok_of he))
    rw [decV_bytes c (by omega) he] at e2
    dsimp only at e2
    have hL := bkLoop1 c hc
    have s1 := ev_RefSame c c.pure hc
    have s2 := ev_ClassSame c c.pure hc [[], []]
    rw [c.same_pure] at s1 s2
    rw [he] at k2
    generalize c.bytes.map byteV = bs at *
    simp only [bkSt, Cls.pure] at hL
    unfold Cls.pure Cls.v Cls.cells at *
    dsimp only at *
    rw [ev_fn' tab prim (f := 3) rfl _ _ rfl]
    simp [h1, hb, ev_awakeP, k2, e1]
    simp at e2 s1 s2 hL
    simp [e2, s1, s2, hL, ev_awakeP]
  · generalize c.err = x at *
    unfold Cls.v Cls.cells at *
    rw [ev_fn' tab prim (f := 3) rfl _ _ rfl]
    have he' : (x != 0) = true := by simpa using he
    simp [h1, hb, ev_awakeP, k2, he']

end Go.Proofs.YtgmlanhhjmhmmaaGreat.Ev
