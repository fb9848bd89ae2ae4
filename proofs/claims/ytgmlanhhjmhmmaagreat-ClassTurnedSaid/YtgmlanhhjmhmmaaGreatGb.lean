/- How much there is of a class. -/
import Derived.Test.YtgmlanhhjmhmmaaGreatGa
namespace Go.Proofs.YtgmlanhhjmhmmaaGreat.Ev
open Go

def most : Int := 1099511627776
/-- What Sum says. -/
def sumF : Int → List Int → Int
  | n, [] => n
  | n, x :: r => if 1099511627776 < n ∨ 1099511627776 - n < x then 1099511627776 else sumF (n + x) r

theorem sumF_held : ∀ (xs : List Int) (n : Int), 0 ≤ n → (∀ x ∈ xs, 0 ≤ x) → 0 ≤ sumF n xs ∧ (sumF n xs < 1099511627776 → sumF n xs = n + xs.sum)
  | [], n, hn, _ => by simp [sumF, hn]
  | x :: r, n, hn, hx => by
    have h1 := hx x (by simp)
    have := sumF_held r (n + x) (by omega) fun y hy => hx y (by simp [hy])
    rw [sumF, List.sum_cons]
    split
    · omega
    · refine ⟨this.1, fun h => by rw [this.2 h]; omega⟩

theorem sumLoop2 (xs : List Int) (hl : xs.length ≤ 1000) (hx : ∀ x ∈ xs, 0 ≤ x) : ∀ (k i : Nat) (n : Int), i + k = xs.length → 0 ≤ n →
    (cv tab prim (.loop L16_0) { env := [(0, .int .i64 n), (1, .list 1 (ints xs) false), (5, .int .i64 (i : Int))], mem := [[], [], []] } = some (.ret, { env := [(4, .int .i64 1099511627776)], mem := [[], [], []] }) ∧ sumF n (xs.drop i) = 1099511627776) ∨
    cv tab prim (.loop L16_0) { env := [(0, .int .i64 n), (1, .list 1 (ints xs) false), (5, .int .i64 (i : Int))], mem := [[], [], []] } = some (.exit 0, { env := [(0, .int .i64 (sumF n (xs.drop i)))], mem := [[], [], []] }) := by
  intro k
  induction k with
  | zero =>
    intro i n hi hn
    right
    have h1 : ¬ (i : Int) < ((ints xs).length : Int) := by simp [ints]; omega
    have hd : xs.drop i = [] := List.drop_eq_nil_of_le (by omega)
    rw [cv_loop', hd]
    simp [L16_0, h1, sumF]
  | succ k ih =>
    intro i n hi hn
    have h1 : (i : Int) < ((ints xs).length : Int) := by simp [ints]; omega
    have h1' : i < (ints xs).length := by simpa using h1
    have hlt : i < xs.length := by omega
    have hx1 : (ints xs)[i] = .int .i64 xs[i] := by simp [ints]
    have hp := hx xs[i] (List.getElem_mem hlt)
    have hw : IntKind.i64.wrap ((i : Int) + 1) = ((i + 1 : Nat) : Int) := by rw [wrap_small (by omega) (by omega)]; omega
    have hd : xs.drop i = xs[i] :: xs.drop (i + 1) := List.drop_eq_getElem_cons hlt
    rw [cv_loop', hd, sumF]
    by_cases h2 : 1099511627776 < n
    · left
      rw [if_pos (.inl h2)]
      refine ⟨?_, rfl⟩
      simp [L16_0, h1, h2]
    · have h4 : IntKind.i64.wrap (1099511627776 - n) = 1099511627776 - n := wrap_small (by omega) (by omega)
      by_cases h3 : 1099511627776 - n < xs[i]
      · left
        rw [if_pos (.inr h3)]
        refine ⟨?_, rfl⟩
        simp [L16_0, h1, h1', h2, h3, h4, idxOk, hx1]
      · have h5 : IntKind.i64.wrap (n + xs[i]) = n + xs[i] := wrap_small (by omega) (by omega)
        have := ih (i + 1) (n + xs[i]) (by omega) (by omega)
        rw [← hw] at this
        rw [if_neg (by omega)]
        simpa [L16_0, h1, h1', h2, h3, h4, h5, idxOk, hx1] using this

theorem ev_Sum (n : Int) (xs : List Int) (hl : xs.length ≤ 1000) (hn : 0 ≤ n) (hx : ∀ x ∈ xs, 0 ≤ x) (own : Bool) : ev tab prim 16 [.int .i64 n, .list 1 (xs.map (V.int .i64)) own] [[], []] = some (.int .i64 (sumF n xs), [[], []]) := by
  rw [ev_fn' tab prim (f := 16) rfl _ _ rfl]
  rcases sumLoop2 xs hl hx xs.length 0 n (by omega) hn with ⟨h, hs⟩ | h
  · simp only [Int.natCast_zero, ints] at h
    rw [List.drop_zero] at hs
    simp [h, hs]
  · simp only [Int.natCast_zero, ints, List.drop_zero] at h
    simp [h]

def Ins.size (x : Ins) : Int := sumF 1 [(x.c.length : Int), (x.n.length : Int), (x.d.length : Int)]
def Mth.size0 (m : Mth) : Int := sumF 1 [(m.n.length : Int), (m.d.length : Int), (m.code.length : Int), (m.hs.length : Int)]
def Mth.size1 (m : Mth) (i : Nat) : Int := (m.code.take i).foldl (fun n x => sumF n [x.size]) m.size0
def Mth.size2 (m : Mth) (i : Nat) : Int := (m.hs.take i).foldl (fun n x => sumF n [(x.c.length : Int)]) (m.size1 m.code.length)
def Mth.size (m : Mth) : Int := m.size2 m.hs.length
def Cls.size0 (c : Cls) : Int := sumF 1 [(c.n.length : Int), (c.s.length : Int)]
def Cls.size1 (c : Cls) (i : Nat) : Int := (c.im.take i).foldl (fun n x => sumF n [1, (x.length : Int)]) c.size0
def Cls.size2 (c : Cls) (i : Nat) : Int := (c.fs.take i).foldl (fun n x => sumF n [1, (x.n.length : Int), (x.d.length : Int)]) (c.size1 c.im.length)
def Cls.size3 (c : Cls) (i : Nat) : Int := (c.ms.take i).foldl (fun n x => sumF n [x.size]) (c.size2 c.fs.length)
def Cls.size (c : Cls) : Int := c.size3 c.ms.length

theorem sumF_pos {n : Int} {xs : List Int} (hn : 0 ≤ n) (hx : ∀ x ∈ xs, 0 ≤ x) : 0 ≤ sumF n xs := (sumF_held xs n hn hx).1
theorem foldl_pos {α : Type} (f : Int → α → Int) (hf : ∀ n a, 0 ≤ n → 0 ≤ f n a) : ∀ (l : List α) (n : Int), 0 ≤ n → 0 ≤ l.foldl f n
  | [], _, h => h
  | a :: l, n, h => foldl_pos f hf l _ (hf n a h)
theorem foldl_take {α β : Type} (f : β → α → β) (l : List α) (n : β) (i : Nat) (h : i < l.length) : (l.take (i + 1)).foldl f n = f ((l.take i).foldl f n) l[i] := by
  rw [List.take_succ_eq_append_getElem h, List.foldl_append]; rfl

theorem Ins.size_pos (x : Ins) : 0 ≤ x.size := sumF_pos (by omega) (by simp)
theorem Mth.size1_pos (m : Mth) (i : Nat) : 0 ≤ m.size1 i := foldl_pos _ (fun n a h => sumF_pos h (by simp [Ins.size_pos])) _ _ (sumF_pos (by omega) (by simp))
theorem Mth.size2_pos (m : Mth) (i : Nat) : 0 ≤ m.size2 i := foldl_pos _ (fun n a h => sumF_pos h (by simp)) _ _ (m.size1_pos _)
theorem Mth.size_pos (m : Mth) : 0 ≤ m.size := m.size2_pos _
theorem Cls.size1_pos (c : Cls) (i : Nat) : 0 ≤ c.size1 i := foldl_pos _ (fun n a h => sumF_pos h (by simp)) _ _ (sumF_pos (by omega) (by simp))
theorem Cls.size2_pos (c : Cls) (i : Nat) : 0 ≤ c.size2 i := foldl_pos _ (fun n a h => sumF_pos h (by simp)) _ _ (c.size1_pos _)
theorem Cls.size3_pos (c : Cls) (i : Nat) : 0 ≤ c.size3 i := foldl_pos _ (fun n a h => sumF_pos h (by simp [Mth.size_pos])) _ _ (c.size2_pos _)

theorem ev_InstrSize (x : Ins) : ev tab prim 46 [x.v] [[], []] = some (.int .i64 x.size, [[], []]) := by
  have hr := ev_Sum 1 [(x.c.length : Int), (x.n.length : Int), (x.d.length : Int)] (by simp) (by omega) (by simp) false
  unfold Ins.v
  rw [ev_fn' tab prim (f := 46) rfl _ _ rfl]
  simp only [List.map_cons, List.map_nil] at hr
  simp [hr, Ins.size]

theorem wrap_succ {i n : Nat} (h : i < n) (hn : n ≤ maxLen) : IntKind.i64.wrap ((i : Int) + 1) = ((i + 1 : Nat) : Int) := by
  unfold maxLen at hn; rw [wrap_small (by omega) (by omega)]; omega

theorem mLoop0 (m : Mth) (hm : m.Wf) : cv tab prim (.loop L17_0) { env := [(1, .cptr m.cells), (3, .int .i64 m.size0), (4, .int .i64 0)], mem := [[], [], []] } = some (.exit 0, { env := [(1, .cptr m.cells), (3, .int .i64 (m.size1 m.code.length))], mem := [[], [], []] }) := by
  refine loop_all (fun i => { env := [(1, .cptr m.cells), (3, .int .i64 (m.size1 i)), (4, .int .i64 (i : Int))], mem := [[], [], []] }) m.code.length _ (fun i hi => ?_) ?_ (by simp)
  · have h1 : (i : Int) < (m.code.length : Int) := by omega
    have hw := wrap_succ hi hm.code
    have hI := ev_InstrSize m.code[i]
    have hS := ev_Sum (m.size1 i) [m.code[i].size] (by simp) (m.size1_pos i) (by simp [Ins.size_pos]) false
    have he : m.size1 (i + 1) = sumF (m.size1 i) [m.code[i].size] := foldl_take _ _ _ _ hi
    simp only [List.map_cons, List.map_nil] at hS
    rw [he]
    unfold Ins.v at hI
    have hx : (m.code.map Ins.v)[i]? = some m.code[i].v := by simp [hi]
    simp [L17_0, h1, hw, hI, hS, idxOk, Mth.cells, hx, Ins.v]
  · simp [L17_0, Mth.cells]

theorem mLoop1 (m : Mth) (hm : m.Wf) : cv tab prim (.loop L17_1) { env := [(1, .cptr m.cells), (3, .int .i64 (m.size1 m.code.length)), (5, .int .i64 0)], mem := [[], [], []] } = some (.exit 2, { env := [(3, .int .i64 (m.size2 m.hs.length))], mem := [[], [], []] }) := by
  refine loop_all (fun i => { env := [(1, .cptr m.cells), (3, .int .i64 (m.size2 i)), (5, .int .i64 (i : Int))], mem := [[], [], []] }) m.hs.length _ (fun i hi => ?_) ?_ (by simp)
  · have h1 : (i : Int) < (m.hs.length : Int) := by omega
    have hw := wrap_succ hi hm.hs
    have hS := ev_Sum (m.size2 i) [(m.hs[i].c.length : Int)] (by simp) (m.size2_pos i) (by simp) false
    have he : m.size2 (i + 1) = sumF (m.size2 i) [(m.hs[i].c.length : Int)] := foldl_take _ _ _ _ hi
    simp only [List.map_cons, List.map_nil] at hS
    rw [he]
    have hx : (m.hs.map Hnd.v)[i]? = some m.hs[i].v := by simp [hi]
    simp [L17_1, h1, hw, hS, idxOk, Mth.cells, hx, Hnd.v]
  · simp [L17_1, Mth.cells]

theorem ev_MethodSize (m : Mth) (hm : m.Wf) : ev tab prim 17 [m.v] [[], []] = some (.int .i64 m.size, [[], []]) := by
  have hS := ev_Sum 1 [(m.n.length : Int), (m.d.length : Int), (m.code.length : Int), (m.hs.length : Int)] (by simp) (by omega) (by simp) false
  have h0 := mLoop0 m hm
  have h1 := mLoop1 m hm
  simp only [List.map_cons, List.map_nil] at hS
  unfold Mth.size0 at h0
  unfold Mth.v
  rw [ev_fn' tab prim (f := 17) rfl _ _ rfl]
  unfold Mth.cells at h0 h1 ⊢
  simp [hS, h0, h1, Mth.size]

theorem cLoop0 (c : Cls) (hc : c.Wf) : cv tab prim (.loop L6_0) { env := [(1, .cptr c.cells), (3, .int .i64 c.size0), (4, .int .i64 0)], mem := [[], [], []] } = some (.exit 0, { env := [(1, .cptr c.cells), (3, .int .i64 (c.size1 c.im.length))], mem := [[], [], []] }) := by
  refine loop_all (fun i => { env := [(1, .cptr c.cells), (3, .int .i64 (c.size1 i)), (4, .int .i64 (i : Int))], mem := [[], [], []] }) c.im.length _ (fun i hi => ?_) ?_ (by simp)
  · have h1 : (i : Int) < (c.im.length : Int) := by omega
    have hw := wrap_succ hi hc.im
    have hS := ev_Sum (c.size1 i) [1, (c.im[i].length : Int)] (by simp) (c.size1_pos i) (by simp) false
    have he : c.size1 (i + 1) = sumF (c.size1 i) [1, (c.im[i].length : Int)] := foldl_take _ _ _ _ hi
    simp only [List.map_cons, List.map_nil] at hS
    rw [he]
    have hx : (c.im.map V.str)[i]? = some (.str c.im[i]) := by simp [hi]
    simp [L6_0, h1, hw, hS, idxOk, Cls.cells, hx]
  · simp [L6_0, Cls.cells]

theorem cLoop1 (c : Cls) (hc : c.Wf) : cv tab prim (.loop L6_1) { env := [(1, .cptr c.cells), (3, .int .i64 (c.size1 c.im.length)), (5, .int .i64 0)], mem := [[], [], []] } = some (.exit 2, { env := [(1, .cptr c.cells), (3, .int .i64 (c.size2 c.fs.length))], mem := [[], [], []] }) := by
  refine loop_all (fun i => { env := [(1, .cptr c.cells), (3, .int .i64 (c.size2 i)), (5, .int .i64 (i : Int))], mem := [[], [], []] }) c.fs.length _ (fun i hi => ?_) ?_ (by simp)
  · have h1 : (i : Int) < (c.fs.length : Int) := by omega
    have hw := wrap_succ hi hc.fs
    have hS := ev_Sum (c.size2 i) [1, (c.fs[i].n.length : Int), (c.fs[i].d.length : Int)] (by simp) (c.size2_pos i) (by simp) false
    have he : c.size2 (i + 1) = sumF (c.size2 i) [1, (c.fs[i].n.length : Int), (c.fs[i].d.length : Int)] := foldl_take _ _ _ _ hi
    simp only [List.map_cons, List.map_nil] at hS
    rw [he]
    have hx : (c.fs.map Fld.v)[i]? = some c.fs[i].v := by simp [hi]
    simp [L6_1, h1, hw, hS, idxOk, Cls.cells, hx, Fld.v]
  · simp [L6_1, Cls.cells]

theorem cLoop2 (c : Cls) (hc : c.Wf) : cv tab prim (.loop L6_2) { env := [(1, .cptr c.cells), (3, .int .i64 (c.size2 c.fs.length)), (6, .int .i64 0)], mem := [[], [], []] } = some (.exit 4, { env := [(3, .int .i64 (c.size3 c.ms.length))], mem := [[], [], []] }) := by
  refine loop_all (fun i => { env := [(1, .cptr c.cells), (3, .int .i64 (c.size3 i)), (6, .int .i64 (i : Int))], mem := [[], [], []] }) c.ms.length _ (fun i hi => ?_) ?_ (by simp)
  · have h1 : (i : Int) < (c.ms.length : Int) := by omega
    have hw := wrap_succ hi hc.ms
    have hM := ev_MethodSize c.ms[i] (hc.mss _ (List.getElem_mem hi))
    have hS := ev_Sum (c.size3 i) [c.ms[i].size] (by simp) (c.size3_pos i) (by simp [Mth.size_pos]) false
    have he : c.size3 (i + 1) = sumF (c.size3 i) [c.ms[i].size] := foldl_take _ _ _ _ hi
    simp only [List.map_cons, List.map_nil] at hS
    rw [he]
    unfold Mth.v Mth.cells at hM
    have hx : (c.ms.map Mth.v)[i]? = some c.ms[i].v := by simp [hi]
    simp [L6_2, h1, hw, hM, hS, idxOk, Cls.cells, hx, Mth.v, Mth.cells]
  · simp [L6_2, Cls.cells]

theorem ev_ClassSize (c : Cls) (hc : c.Wf) : ev tab prim 6 [c.v] [[], []] = some (.int .i64 c.size, [[], []]) := by
  have hS := ev_Sum 1 [(c.n.length : Int), (c.s.length : Int)] (by simp) (by omega) (by simp) false
  have h0 := cLoop0 c hc
  have h1 := cLoop1 c hc
  have h2 := cLoop2 c hc
  simp only [List.map_cons, List.map_nil] at hS
  unfold Cls.size0 at h0
  unfold Cls.v
  rw [ev_fn' tab prim (f := 6) rfl _ _ rfl]
  unfold Cls.cells at h0 h1 h2 ⊢
  simp [hS, h0, h1, h2, Cls.size]

end Go.Proofs.YtgmlanhhjmhmmaaGreat.Ev
