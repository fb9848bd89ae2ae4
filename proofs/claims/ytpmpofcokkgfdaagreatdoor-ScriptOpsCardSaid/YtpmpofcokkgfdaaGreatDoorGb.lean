/- How much there is of a class. -/
import Derived.Test.YtpmpofcokkgfdaaGreatDoorGa
namespace Go.Proofs.YtpmpofcokkgfdaaGreatDoor.Ev
open Go

def most : Int := 1099511627776
/-- What Sum says. -/
def sumF : Int → List Int → Int
  | n, [] => n
  | n, x :: r => if 1099511627776 < n ∨ 1099511627776 - n < x then 1099511627776 else sumF (n + x) r

theorem sumF_held : ∀ (xs : List Int) (n : Int), 0 ≤ n → (∀ x ∈ xs, 0 ≤ x) → 0 ≤ sumF n xs ∧ (sumF n xs < 1099511627776 → sumF n xs = n + xs.sum)
  | [], n, hn, _ => by simp [sumF, hn]
  | x :: r, n, hn, hx => by
    have h1 := hx x (by simp)
    have := sumF_held r (n + x) (by omega) fun y hy => hx y (by simp [hy])
    rw [sumF, List.sum_cons]
    split
    · omega
    · refine ⟨this.1, fun h => by rw [this.2 h]; omega⟩

theorem sumLoop2 (xs : List Int) (hl : xs.length ≤ 1000) (hx : ∀ x ∈ xs, 0 ≤ x) : ∀ (k i : Nat) (n : Int), i + k = xs.length → 0 ≤ n →
    (cv tab prim (.loop L13_0) { env := [(0, .int .i64 n), (1, .list 1 (ints xs) false), (5, .int .i64 (i : Int))], mem := [[], [], []] } = some (.ret, { env := [(4, .int .i64 1099511627776)], mem := [[], [], []] }) ∧ sumF n (xs.drop i) = 1099511627776) ∨
    cv tab prim (.loop L13_0) { env := [(0, .int .i64 n), (1, .list 1 (ints xs) false), (5, .int .i64 (i : Int))], mem := [[], [], []] } = some (.exit 0, { env := [(0, .int .i64 (sumF n (xs.drop i)))], mem := [[], [], []] }) := by
  intro k
  induction k with
  | zero =>
    intro i n hi hn
    right
    have h1 : ¬ (i : Int) < ((ints xs).length : Int) := by simp [ints]; omega
    have hd : xs.drop i = [] := List.drop_eq_nil_of_le (by omega)
    rw [cv_loop', hd]
    simp [L13_0, h1, sumF]
  | succ k ih =>
    intro i n hi hn
    have h1 : (i : Int) < ((ints xs).length : Int) := by simp [ints]; omega
    have h1' : i < (ints xs).length := by simpa using h1
    have hlt : i < xs.length := by omega
    have hx1 : (ints xs)[i] = .int .i64 xs[i] := by simp [ints]
    have hp := hx xs[i] (List.getElem_mem hlt)
    have hw : IntKind.i64.wrap ((i : Int) + 1) = ((i + 1 : Nat) : Int) := by rw [wrap_small (by omega) (by omega)]; omega
    have hd : xs.drop i = xs[i] :: xs.drop (i + 1) := List.drop_eq_getElem_cons hlt
    rw [cv_loop', hd, sumF]
    by_cases h2 : 1099511627776 < n
    · left
      rw [if_pos (.inl h2)]
      refine ⟨?_, rfl⟩
      simp [L13_0, h1, h2]
    · have h4 : IntKind.i64.wrap (1099511627776 - n) = 1099511627776 - n := wrap_small (by omega) (by omega)
      by_cases h3 : 1099511627776 - n < xs[i]
      · left
        rw [if_pos (.inr h3)]
        refine ⟨?_, rfl⟩
        simp [L13_0, h1, h1', h2, h3, h4, idxOk, hx1]
      · have h5 : IntKind.i64.wrap (n + xs[i]) = n + xs[i] := wrap_small (by omega) (by omega)
        have := ih (i + 1) (n + xs[i]) (by omega) (by omega)
        rw [← hw] at this
        rw [if_neg (by omega)]
        simpa [L13_0, h1, h1', h2, h3, h4, h5, idxOk, hx1] using this

theorem ev_Sum (n : Int) (xs : List Int) (hl : xs.length ≤ 1000) (hn : 0 ≤ n) (hx : ∀ x ∈ xs, 0 ≤ x) (own : Bool) : ev tab prim 13 [.int .i64 n, .list 1 (xs.map (V.int .i64)) own] [[], []] = some (.int .i64 (sumF n xs), [[], []]) := by
  rw [ev_fn' tab prim (f := 13) rfl _ _ rfl]
  rcases sumLoop2 xs hl hx xs.length 0 n (by omega) hn with ⟨h, hs⟩ | h
  · simp only [Int.natCast_zero, ints] at h
    rw [List.drop_zero] at hs
    simp [h, hs]
  · simp only [Int.natCast_zero, ints, List.drop_zero] at h
    simp [h]

def Ins.size (x : Ins) : Int := sumF 1 [(x.c.length : Int), (x.n.length : Int), (x.d.length : Int)]
def Mth.size0 (m : Mth) : Int := sumF 1 [(m.n.length : Int), (m.d.length : Int), (m.code.length : Int), (m.hs.length : Int)]
def Mth.size1 (m : Mth) (i : Nat) : Int := (m.code.take i).foldl (fun n x => sumF n [x.size]) m.size0
def Mth.size2 (m : Mth) (i : Nat) : Int := (m.hs.take i).foldl (fun n x => sumF n [(x.c.length : Int)]) (m.size1 m.code.length)
def Mth.size (m : Mth) : Int := m.size2 m.hs.length
def Cls.size0 (c : Cls) : Int := sumF 1 [(c.n.length : Int), (c.s.length : Int)]
def Cls.size1 (c : Cls) (i : Nat) : Int := (c.im.take i).foldl (fun n x => sumF n [1, (x.length : Int)]) c.size0
def Cls.size2 (c : Cls) (i : Nat) : Int := (c.fs.take i).foldl (fun n x => sumF n [1, (x.n.length : Int), (x.d.length : Int)]) (c.size1 c.im.length)
def Cls.size3 (c : Cls) (i : Nat) : Int := (c.ms.take i).foldl (fun n x => sumF n [x.size]) (c.size2 c.fs.length)
def Cls.size (c : Cls) : Int := c.size3 c.ms.length

theorem sumF_pos {n : Int} {xs : List Int} (hn : 0 ≤ n) (hx : ∀ x ∈ xs, 0 ≤ x) : 0 ≤ sumF n xs := (sumF_held xs n hn hx).1
theorem foldl_pos {α : Type} (f : Int → α → Int) (hf : ∀ n a, 0 ≤ n → 0 ≤ f n a) : ∀ (l : List α) (n : Int), 0 ≤ n → 0 ≤ l.foldl f n
  | [], _, h => h
  | a :: l, n, h => foldl_pos f hf l _ (hf n a h)
theorem foldl_take {α β : Type} (f : β → α → β) (l : List α) (n : β) (i : Nat) (h : i < l.length) : (l.take (i + 1)).foldl f n = f ((l.take i).foldl f n) l[i] := by
  rw [List.take_succ_eq_append_getElem h, List.foldl_append]; rfl

theorem Ins.size_pos (x : Ins) : 0 ≤ x.size := sumF_pos (by omega) (by simp)
theorem Mth.size1_pos (m : Mth) (i : Nat) : 0 ≤ m.size1 i := foldl_pos _ (fun n a h => sumF_pos h (by simp [Ins.size_pos])) _ _ (sumF_pos (by omega) (by simp))
theorem Mth.size2_pos (m : Mth) (i : Nat) : 0 ≤ m.size2 i := foldl_pos _ (fun n a h => sumF_pos h (by simp)) _ _ (m.size1_pos _)
theorem Mth.size_pos (m : Mth) : 0 ≤ m.size := m.size2_pos _
theorem Cls.size1_pos (c : Cls) (i : Nat) : 0 ≤ c.size1 i := foldl_pos _ (fun n a h => sumF_pos h (by simp)) _ _ (sumF_pos (by omega) (by simp))
theorem Cls.size2_pos (c : Cls) (i : Nat) : 0 ≤ c.size2 i := foldl_pos _ (fun n a h => sumF_pos h (by simp)) _ _ (c.size1_pos _)
theorem Cls.size3_pos (c : Cls) (i : Nat) : 0 ≤ c.size3 i := foldl_pos _ (fun n a h => sumF_pos h (by simp [Mth.size_pos])) _ _ (c.size2_pos _)

theorem wrap_succ {i n : Nat} (h : i < n) (hn : n ≤ maxLen) : IntKind.i64.wrap ((i : Int) + 1) = ((i + 1 : Nat) : Int) := by
  unfold maxLen at hn; rw [wrap_small (by omega) (by omega)]; omega

end Go.Proofs.YtpmpofcokkgfdaaGreatDoor.Ev
