/- Classes at their limits: why they may not be. -/
import Derived.Test.YtgmlanhhjmhmmaaGq
namespace Go.Proofs.Ytgmlanhhjmhmmaa.Ev
open Go

theorem sumF_le : ∀ (xs : List Int) (n : Int), (∀ x ∈ xs, 0 ≤ x) → sumF n xs ≤ n + xs.sum
  | [], n, _ => by simp [sumF]
  | x :: r, n, h => by
    have ih := sumF_le r (n + x) fun y hy => h y (by simp [hy])
    have hx := h x (by simp)
    have hr := sum_nonneg fun y hy => h y (List.mem_cons_of_mem x hy)
    rw [sumF, List.sum_cons]
    split
    · omega
    · omega
theorem foldl_le {α : Type} (f : Int → α → Int) (k : Int) : ∀ (l : List α) (n : Int), (∀ n, ∀ a ∈ l, f n a ≤ n + k) → l.foldl f n ≤ n + k * l.length
  | [], n, _ => by simp
  | a :: l, n, h => by
    have ih := foldl_le f k l (f n a) fun m b hb => h m b (by simp [hb])
    have := h n a (by simp)
    rw [List.foldl_cons, List.length_cons]
    have e : k * ((l.length + 1 : Nat) : Int) = k * l.length + k := by rw [Int.natCast_add, Int.mul_add]; simp
    omega

def R0 : Ins := ⟨36, 0, 0, [], [], []⟩
def N0 : Ins := ⟨1, 0, 0, [], [], []⟩
def H0 : Hnd := ⟨0, 1, 0, []⟩
def F0 : Fld := ⟨[102], [73], false⟩
def OB : Tx := [79, 98, 106, 101, 99, 116]

structure MG (m : Mth) : Prop where
  (n : m.n = [109]) (d : m.d = [40, 41, 86]) (s : m.s = true) (a : m.a = false) (code : ∀ x ∈ m.code, x = R0 ∨ x = N0) (c1 : 1 ≤ m.code.length) (c2 : m.code.length ≤ 220)
  (hs : ∀ h ∈ m.hs, h = H0) (h2 : m.hs.length ≤ 220) (st : 0 ≤ m.st ∧ m.st ≤ 220) (lo : 0 ≤ m.lo ∧ m.lo ≤ 220)
structure KG (c : Cls) : Prop where
  (n : c.n = [65]) (s : c.s = OB) (im : c.im = []) (fs : ∀ f ∈ c.fs, f = F0) (fl : c.fs.length ≤ 220) (ml : c.ms.length ≤ 220) (ms : ∀ m ∈ c.ms, MG m)
  (q : ∃ q : Nat, (∀ m ∈ c.ms, 5 + 2 * m.code.length + m.hs.length ≤ q) ∧ q * c.ms.length ≤ 6000)

theorem MG.size {m : Mth} (h : MG m) : m.size ≤ 5 + 2 * m.code.length + m.hs.length := by
  have e0 : m.size0 ≤ 5 + m.code.length + m.hs.length := by
    have := sumF_le [(m.n.length : Int), (m.d.length : Int), (m.code.length : Int), (m.hs.length : Int)] 1 (by simp)
    rw [h.n, h.d] at this
    simp only [List.sum_cons, List.sum_nil, List.length_cons, List.length_nil] at this
    unfold Mth.size0
    rw [h.n, h.d]
    simp only [List.length_cons, List.length_nil]
    omega
  have e1 := foldl_le (fun n (x : Ins) => sumF n [x.size]) 1 (m.code.take m.code.length) m.size0 (fun n x hx => by
    have hx' : x ∈ m.code := by simpa using hx
    have hz : x.size = 1 := by rcases h.code x hx' with rfl | rfl <;> rfl
    have := sumF_le [x.size] n (by simp [hz])
    simpa [hz] using this)
  have e2 := foldl_le (fun n (x : Hnd) => sumF n [(x.c.length : Int)]) 0 (m.hs.take m.hs.length) (m.size1 m.code.length) (fun n x hx => by
    have hx' : x ∈ m.hs := by simpa using hx
    have hz := h.hs x hx'
    have := sumF_le [(x.c.length : Int)] n (by simp)
    subst hz
    simpa [H0] using this)
  have e1' : m.size1 m.code.length ≤ m.size0 + 1 * (m.code.take m.code.length).length := e1
  have e2' : m.size ≤ m.size1 m.code.length + 0 * (m.hs.take m.hs.length).length := e2
  rw [List.take_length] at e1' e2'
  omega

theorem KG.size {c : Cls} (h : KG c) : c.size ≤ 12000 := by
  obtain ⟨q, h1, h2⟩ := h.q
  have e0 : c.size0 ≤ 8 := by
    have := sumF_le [(c.n.length : Int), (c.s.length : Int)] 1 (by simp)
    rw [h.n, h.s] at this
    unfold Cls.size0
    rw [h.n, h.s]
    simpa [OB] using this
  have e1 : c.size1 c.im.length ≤ 8 := by unfold Cls.size1; rw [h.im]; simpa using e0
  have e2 := foldl_le (fun n (x : Fld) => sumF n [1, (x.n.length : Int), (x.d.length : Int)]) 3 (c.fs.take c.fs.length) (c.size1 c.im.length) (fun n x hx => by
    have hx' : x ∈ c.fs := by simpa using hx
    have hz := h.fs x hx'
    have := sumF_le [1, (x.n.length : Int), (x.d.length : Int)] n (by simp)
    subst hz
    simpa [F0] using this)
  have e3 := foldl_le (fun n (x : Mth) => sumF n [x.size]) (q : Int) (c.ms.take c.ms.length) (c.size2 c.fs.length) (fun n x hx => by
    have hx' : x ∈ c.ms := by simpa using hx
    have hz := (h.ms x hx').size
    have hq := h1 x hx'
    have := sumF_le [x.size] n (by simp [Mth.size_pos])
    simp only [List.sum_cons, List.sum_nil] at this
    omega)
  have e2' : c.size2 c.fs.length ≤ c.size1 c.im.length + 3 * (c.fs.take c.fs.length).length := e2
  have e3' : c.size ≤ c.size2 c.fs.length + q * (c.ms.take c.ms.length).length := e3
  rw [List.take_length] at e2' e3'
  have := h.fl
  have h2' : (q : Int) * (c.ms.length : Int) ≤ 6000 := by rw [← Int.natCast_mul]; omega
  omega

theorem MG.wf {m : Mth} (h : MG m) : m.Wf := by
  have k : ∀ z : Int, 0 ≤ z → z ≤ 220 → (Lit.int .i64 z).wf = true := fun z h1 h2 => by
    have e1 : IntKind.min .i64 = -9223372036854775808 := by rfl
    have e2 : IntKind.max .i64 = 9223372036854775807 := by rfl
    show (decide (IntKind.min .i64 ≤ z) && decide (z ≤ IntKind.max .i64)) = true
    rw [e1, e2, Bool.and_eq_true]
    exact ⟨decide_eq_true (by omega), decide_eq_true (by omega)⟩
  refine ⟨k _ h.st.1 h.st.2, k _ h.lo.1 h.lo.2, by have := h.c2; unfold maxLen; omega, by have := h.h2; unfold maxLen; omega, fun x hx => ?_, fun x hx => ?_, by rw [h.n]; simp [maxLen], by rw [h.d]; simp [maxLen], fun x hx => ?_, fun x hx => ?_⟩
  · rcases h.code x hx with rfl | rfl <;> exact ⟨by rfl, by rfl, by rfl⟩
  · rw [h.hs x hx]; exact ⟨by rfl, by rfl, by rfl⟩
  · rcases h.code x hx with rfl | rfl <;> simp [R0, N0]
  · rw [h.hs x hx]; simp [H0]

theorem KG.wf {c : Cls} (h : KG c) : c.Wf := by
  refine ⟨by rw [h.im]; exact Nat.zero_le _, by have := h.fl; unfold maxLen; omega, by have := h.ml; unfold maxLen; omega, fun m hm => (h.ms m hm).wf, by rw [h.n]; decide, by rw [h.s]; decide, by rw [h.im]; simp, fun x hx => ?_⟩
  rw [h.fs x hx]; exact ⟨by decide, by decide⟩

theorem chk_R0 (len loc : Int) : chkI R0 len loc = 0 := by
  have e1 : inR 36 = true := by kernel_rfl
  have e2 : bad32 36 0 0 = false := by kernel_rfl
  have e3 : nmd 36 [] [] [] = true := by kernel_rfl
  have e4 : isJp 36 = false := by kernel_rfl
  have e5 : ((36 : Int) == 5 || (36 : Int) == 6) = false := by rfl
  unfold chkI R0
  simp only [e1, e2, e3, badIx, e4, e5, Bool.not_true, cond_false, Bool.false_and, Bool.or_self]
theorem chk_N0 (len loc : Int) : chkI N0 len loc = 0 := by
  have e1 : inR 1 = true := by kernel_rfl
  have e2 : bad32 1 0 0 = false := by kernel_rfl
  have e3 : nmd 1 [] [] [] = true := by kernel_rfl
  have e4 : isJp 1 = false := by kernel_rfl
  have e5 : ((1 : Int) == 5 || (1 : Int) == 6) = false := by rfl
  unfold chkI N0
  simp only [e1, e2, e3, badIx, e4, e5, Bool.not_true, cond_false, Bool.false_and, Bool.or_self]

theorem firstE_all {α : Type} (f : α → Int) : ∀ (l : List α), (∀ x ∈ l, f x = 0) → firstE f l = 0
  | [], _ => rfl
  | x :: r, h => by
    rw [firstE, h x (by simp), firstE_all f r fun y hy => h y (by simp [hy])]
    rfl

theorem MG.err {m : Mth} (h : MG m) : errM m = bif limM m then 0 else 5 := by
  have q1 : methOk [40, 41, 86] = true := by kernel_rfl
  have q2 : mnameOk [109] = true := by kernel_rfl
  have q3 : (([109] : List UInt8) == clinitN) = false := by rfl
  have q4 : (([109] : List UInt8) == initN) = false := by rfl
  have e1 : nmdM m = true := by
    unfold nmdM
    rw [h.d, h.n, q1, q2, q3, q4]
    rfl
  have e2 : leastM m = 0 := by
    have : (mps [40, 41, 86]).length = 0 := by kernel_rfl
    unfold leastM
    rw [h.d, h.s, this]
    rfl
  have e3 : errC m = 0 := firstE_all _ _ fun x hx => by
    rcases h.code x hx with rfl | rfl
    · exact chk_R0 _ _
    · exact chk_N0 _ _
  have e4 : errH m = 0 := firstE_all _ _ fun x hx => by
    have := h.c1
    rw [h.hs x hx]
    have h1 : ¬ (m.code.length : Int) < 1 := by omega
    have h2 : (1 : Int) ≤ m.code.length := by omega
    simp [hdl, H0, h1, h2]
  have e5 : ((m.code.length : Int) == 0) = false := by
    have := h.c1
    rw [beq_eq_false_iff_ne]; omega
  have e6 : decide (m.lo < 0) = false := by
    have := h.lo.1
    simp; omega
  unfold errM
  rw [e1, e2, e3, e4, h.a, e5, e6]
  cases limM m <;> rfl

theorem KG.err {c : Cls} (h : KG c) (ht : c.texts.length ≤ 500 ∨ (20 < c.fs.length ∨ 20 < c.ms.length) ∨ firstE errM c.ms ≠ 0) :
    c.err = bif decide (20 < c.fs.length) || decide (20 < c.ms.length) then 5 else firstE errM c.ms := by
  have q1 : nameOk [65] = true := by kernel_rfl
  have q2 : nameOk OB = true := by kernel_rfl
  have q3 : nameOk [102] = true := by kernel_rfl
  have q4 : typeOk [73] = true := by kernel_rfl
  have q5 : (OB == []) = false := by rfl
  have e1 : (c.fs.any fun f => !(nameOk f.n && typeOk f.d)) = false := by
    rw [List.any_eq_false]
    intro f hf
    rw [h.fs f hf]
    simp [F0, q3, q4]
  have hp := addL_len c.texts []
  have d1 : decide (20 < (c.fs.length : Int)) = decide (20 < c.fs.length) := by simp; omega
  have d2 : decide (20 < (c.ms.length : Int)) = decide (20 < c.ms.length) := by simp; omega
  unfold Cls.err
  rw [h.n, h.s, h.im, q1, q2, q5, e1, d1, d2]
  simp only [List.length_nil, List.any_nil, Bool.and_self, Bool.or_true, Bool.not_true, Bool.or_self, cond_false, Int.natCast_zero]
  rw [show decide ((30 : Int) < 0) = false from rfl, Bool.false_or]
  cases hb : decide (20 < c.fs.length) || decide (20 < c.ms.length)
  · simp only [cond_false]
    cases hz : firstE errM c.ms == 0
    · rfl
    · simp only [cond_true]
      have hz' : firstE errM c.ms = 0 := by simpa using hz
      rw [hz']
      rcases ht with ht | ht | ht
      · have : ¬ 500 < (c.pool.length : Int) := by unfold Cls.pool; simp only [List.length_nil] at hp; omega
        simp [this]
      · simp at hb; omega
      · exact absurd hz' ht
  · rfl

theorem ev_CheckG (c : Cls) (h : KG c) : ev tab prim 11 [c.v] [[], []] = some (.int .i64 c.err, [[], []]) := ev_Check c h.wf (c.small h.size)

end Go.Proofs.Ytgmlanhhjmhmmaa.Ev
