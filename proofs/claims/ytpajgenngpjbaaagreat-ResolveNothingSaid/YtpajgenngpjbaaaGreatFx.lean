import Derived.Test.YtpajgenngpjbaaaGreatPq
/- What the small functions of instructions compute. -/
namespace Go.Proofs.YtpajgenngpjbaaaGreat.Ev
open Go

def T : List V := [.str [], .bool false, .bool false, .bool false, .bool false, .bool false, .int .i64 0, .int .i64 0, .str [110, 111, 112], .bool false, .bool false, .bool false, .bool false, .bool false, .int .i64 0, .int .i64 0, .str [105, 99, 111, 110, 115, 116], .bool true, .bool false, .bool false, .bool false, .bool false, .int .i64 0, .int .i64 1, .str [99, 99, 111, 110, 115, 116], .bool true, .bool true, .bool false, .bool false, .bool false, .int .i64 0, .int .i64 1, .str [110, 117, 108, 108], .bool false, .bool false, .bool false, .bool false, .bool false, .int .i64 0, .int .i64 1, .str [108, 111, 97, 100], .bool true, .bool false, .bool false, .bool false, .bool false, .int .i64 0, .int .i64 1, .str [115, 116, 111, 114, 101], .bool true, .bool false, .bool false, .bool false, .bool false, .int .i64 1, .int .i64 0, .str [112, 111, 112], .bool false, .bool false, .bool false, .bool false, .bool false, .int .i64 1, .int .i64 0, .str [100, 117, 112], .bool false, .bool false, .bool false, .bool false, .bool false, .int .i64 1, .int .i64 2, .str [115, 119, 97, 112], .bool false, .bool false, .bool false, .bool false, .bool false, .int .i64 2, .int .i64 2, .str [105, 97, 100, 100], .bool false, .bool false, .bool false, .bool false, .bool false, .int .i64 2, .int .i64 1, .str [105, 115, 117, 98], .bool false, .bool false, .bool false, .bool false, .bool false, .int .i64 2, .int .i64 1, .str [105, 109, 117, 108], .bool false, .bool false, .bool false, .bool false, .bool false, .int .i64 2, .int .i64 1, .str [105, 100, 105, 118], .bool false, .bool false, .bool false, .bool false, .bool false, .int .i64 2, .int .i64 1, .str [99, 97, 100, 100], .bool false, .bool false, .bool false, .bool false, .bool false, .int .i64 2, .int .i64 1, .str [99, 109, 117, 108], .bool false, .bool false, .bool false, .bool false, .bool false, .int .i64 2, .int .i64 1, .str [99, 114, 101], .bool false, .bool false, .bool false, .bool false, .bool false, .int .i64 1, .int .i64 1, .str [103, 111, 116, 111], .bool true, .bool false, .bool false, .bool false, .bool false, .int .i64 0, .int .i64 0, .str [105, 102, 122, 101, 114, 111], .bool true, .bool false, .bool false, .bool false, .bool false, .int .i64 1, .int .i64 0, .str [105, 102, 110, 117, 108, 108], .bool true, .bool false, .bool false, .bool false, .bool false, .int .i64 1, .int .i64 0, .str [105, 102, 115, 97, 109, 101], .bool true, .bool false, .bool false, .bool false, .bool false, .int .i64 2, .int .i64 0, .str [110, 101, 119], .bool false, .bool false, .bool true, .bool false, .bool false, .int .i64 0, .int .i64 1, .str [103, 101, 116, 102, 105, 101, 108, 100], .bool false, .bool false, .bool true, .bool true, .bool true, .int .i64 1, .int .i64 1, .str [112, 117, 116, 102, 105, 101, 108, 100], .bool false, .bool false, .bool true, .bool true, .bool true, .int .i64 2, .int .i64 0, .str [103, 101, 116, 115, 116, 97, 116, 105, 99], .bool false, .bool false, .bool true, .bool true, .bool true, .int .i64 0, .int .i64 1, .str [112, 117, 116, 115, 116, 97, 116, 105, 99], .bool false, .bool false, .bool true, .bool true, .bool true, .int .i64 1, .int .i64 0, .str [110, 101, 119, 97, 114, 114, 97, 121], .bool false, .bool false, .bool false, .bool false, .bool true, .int .i64 1, .int .i64 1, .str [97, 108, 111, 97, 100], .bool false, .bool false, .bool false, .bool false, .bool false, .int .i64 2, .int .i64 1, .str [97, 115, 116, 111, 114, 101], .bool false, .bool false, .bool false, .bool false, .bool false, .int .i64 3, .int .i64 0, .str [97, 108, 101, 110], .bool false, .bool false, .bool false, .bool false, .bool false, .int .i64 1, .int .i64 1, .str [99, 97, 115, 116], .bool false, .bool false, .bool false, .bool false, .bool true, .int .i64 1, .int .i64 1, .str [105, 115, 105, 110, 115, 116], .bool false, .bool false, .bool false, .bool false, .bool true, .int .i64 1, .int .i64 1, .str [99, 97, 108, 108, 115, 116, 97, 116, 105, 99], .bool false, .bool false, .bool true, .bool true, .bool true, .int .i64 0, .int .i64 0, .str [99, 97, 108, 108, 115, 112, 101, 99, 105, 97, 108], .bool false, .bool false, .bool true, .bool true, .bool true, .int .i64 1, .int .i64 0, .str [99, 97, 108, 108, 118, 105, 114, 116, 117, 97, 108], .bool false, .bool false, .bool true, .bool true, .bool true, .int .i64 1, .int .i64 0, .str [99, 97, 108, 108, 105, 110, 116, 101, 114, 102, 97, 99, 101], .bool false, .bool false, .bool true, .bool true, .bool true, .int .i64 1, .int .i64 0, .str [114, 101, 116, 117, 114, 110], .bool false, .bool false, .bool false, .bool false, .bool false, .int .i64 0, .int .i64 0, .str [114, 101, 116, 118, 97, 108], .bool false, .bool false, .bool false, .bool false, .bool false, .int .i64 1, .int .i64 0, .str [116, 104, 114, 111, 119], .bool false, .bool false, .bool false, .bool false, .bool false, .int .i64 1, .int .i64 0]
theorem ev194 : ev tab prim 194 [] [[], []] = some (.agg T, [[], []]) := ev_of_fuel 9 (by kernel_rfl)
theorem T_len : T.length = 312 := by kernel_rfl

def zRow : List V := [.str [], .bool false, .bool false, .bool false, .bool false, .bool false, .int .i64 0, .int .i64 0]
def rowOf (a : Int) : List V := if 1 ≤ a ∧ a ≤ 38 then (T.drop (a.toNat * 8)).take 8 else zRow

theorem of_map {α : Type} {f g : Nat → α} {n : Nat} (h : (List.range n).map f = (List.range n).map g) {k : Nat} (hk : k < n) : f k = g k :=
  List.map_inj_left.1 h k (List.mem_range.2 hk)

def inR (a : Int) : Bool := decide (1 ≤ a ∧ a ≤ 38)
theorem inR_nat {a : Int} (h : inR a = true) : ∃ n : Nat, a = n ∧ n < 39 := by
  simp [inR] at h
  exact ⟨a.toNat, by omega, by omega⟩
theorem inR_false {a : Int} (h : inR a = false) : a < 1 ∨ 38 < a := by
  simp [inR] at h
  omega

def shapeOf (a : Int) : List V := ((rowOf a).drop 1).take 5
def wordOf (a : Int) : List UInt8 := match rowOf a with | .str s :: _ => s | _ => []

theorem rowOf_out {a : Int} (h : inR a = false) : rowOf a = zRow := by
  unfold rowOf; rw [if_neg (by simpa [inR] using h)]
theorem shapeOf_out {a : Int} (h : inR a = false) : shapeOf a = [.bool false, .bool false, .bool false, .bool false, .bool false] := by
  unfold shapeOf; rw [rowOf_out h]; rfl
theorem wordOf_out {a : Int} (h : inR a = false) : wordOf a = [] := by
  unfold wordOf; rw [rowOf_out h]; rfl

def rstr (a i : Nat) : List UInt8 := match T[a * 8 + i]? with | some (.str s) => s | _ => []
def rbool (a i : Nat) : Bool := match T[a * 8 + i]? with | some (.bool s) => s | _ => false
def rint (a i : Nat) : Int := match T[a * 8 + i]? with | some (.int _ s) => s | _ => 0
theorem row_in : (List.range 39).map (fun n : Nat => (T.drop (n * 8)).take 8) = (List.range 39).map (fun n : Nat =>
    [V.str (rstr n 0), .bool (rbool n 1), .bool (rbool n 2), .bool (rbool n 3), .bool (rbool n 4), .bool (rbool n 5), .int .i64 (rint n 6), .int .i64 (rint n 7)]) := by kernel_rfl

theorem ev178 (a : Int) : ev tab prim 178 [.int .i64 a] [[], []] = some (.tup [.agg (rowOf a), .bool (inR a)], [[], []]) := by
  rw [ev_fn' tab prim (f := 178) rfl _ _ rfl]
  cases h : inR a with
  | true =>
    have hr : rowOf a = (T.drop (a.toNat * 8)).take 8 := by unfold rowOf; rw [if_pos (by simpa [inR] using h)]
    obtain ⟨n, rfl, hn⟩ := inR_nat h
    have h2 : 1 ≤ (n : Int) ∧ (n : Int) ≤ 38 := by simpa [inR] using h
    have h1 : ¬ (n : Int) < 1 := by omega
    have h3 : ¬ 38 < (n : Int) := by omega
    have h4 : (n : Int) < 39 := by omega
    have hc := of_map row_in hn
    rw [Int.toNat_natCast] at hr
    rw [hr]
    simp [h1, h3, h4, ev194, idxOk, T_len, hc]
  | false =>
    rw [rowOf_out h]
    by_cases h1 : a < 1
    · simp [h1, zRow]
    · have h3 : 38 < a := by have := inR_false h; omega
      simp [h1, h3, zRow]

def rowB (a : Int) (i : Nat) : Bool := match (rowOf a)[i]? with | some (.bool s) => s | _ => false
def rowI (a : Int) (i : Nat) : Int := match (rowOf a)[i]? with | some (.int _ s) => s | _ => 0
theorem rowOf_eq (a : Int) : rowOf a = [.str (wordOf a), .bool (rowB a 1), .bool (rowB a 2), .bool (rowB a 3), .bool (rowB a 4), .bool (rowB a 5), .int .i64 (rowI a 6), .int .i64 (rowI a 7)] := by
  cases h : inR a with
  | true =>
    have hr : rowOf a = (T.drop (a.toNat * 8)).take 8 := by unfold rowOf; rw [if_pos (by simpa [inR] using h)]
    obtain ⟨n, rfl, hn⟩ := inR_nat h
    rw [Int.toNat_natCast] at hr
    rw [of_map row_in hn] at hr
    simp [rowB, rowI, wordOf, hr]
  | false => simp [rowB, rowI, wordOf, rowOf_out h, zRow]

theorem shapeOf_eq (a : Int) : shapeOf a = [.bool (rowB a 1), .bool (rowB a 2), .bool (rowB a 3), .bool (rowB a 4), .bool (rowB a 5)] := by
  rw [shapeOf, rowOf_eq]; rfl

theorem ev152 (a : Int) : ev tab prim 152 [.int .i64 a] [[], []] = some (.tup [.agg (shapeOf a), .bool (inR a)], [[], []]) := by
  rw [ev_fn' tab prim (f := 152) rfl _ _ rfl, shapeOf_eq]
  simp [ev178, rowOf_eq a]

/-- Words are unlike. -/
theorem words_in : (List.range 39).map (fun n : Nat => (List.range 39).map fun k : Nat => inR (n : Int) && inR (k : Int) && ((wordOf (n : Int) == wordOf (k : Int)) != (n == k))) = (List.range 39).map (fun _ : Nat => (List.range 39).map fun _ : Nat => false) := by kernel_rfl
theorem some_in : (List.range 39).map (fun n : Nat => inR (n : Int) && (wordOf (n : Int) == [])) = (List.range 39).map (fun _ : Nat => false) := by kernel_rfl
theorem words {a b : Int} (ha : inR a = true) (hb : inR b = true) : (wordOf a == wordOf b) = (a == b) := by
  obtain ⟨n, rfl, hn⟩ := inR_nat ha
  obtain ⟨k, rfl, hk⟩ := inR_nat hb
  have := of_map (of_map words_in hn) hk
  simp only [ha, hb, Bool.and_self, Bool.true_and] at this
  have h2 : (wordOf (n : Int) == wordOf (k : Int)) = (n == k) := by simpa using this
  rw [h2, Bool.eq_iff_iff]; simp; omega
theorem word_some {a : Int} (ha : inR a = true) : wordOf a ≠ [] := by
  obtain ⟨n, rfl, hn⟩ := inR_nat ha
  have := of_map some_in hn
  simp only [ha, Bool.true_and] at this
  simpa using this
theorem word_eq {a : Int} : (wordOf a = []) ↔ inR a = false := by
  constructor
  · intro h; cases hh : inR a with
    | false => rfl
    | true => exact absurd h (word_some hh)
  · exact wordOf_out

end Go.Proofs.YtpajgenngpjbaaaGreat.Ev

/- How much there is, held: a number, whatever it is. -/
namespace Go.Proofs.YtpajgenngpjbaaaGreat.Ev
open Go

theorem wrap_small {z : Int} (h1 : -9223372036854775808 ≤ z) (h2 : z ≤ 9223372036854775807) : IntKind.i64.wrap z = z := by
  unfold IntKind.wrap
  simp [IntKind.bits, IntKind.signed]
  omega

def ints (xs : List Int) : List V := xs.map (V.int .i64)

theorem sumLoop (xs : List Int) (hl : xs.length ≤ 1000) : ∀ (k i : Nat) (n : Int), i + k = xs.length →
    cv tab prim (.loop L26_0) { env := [(0, .int .i64 n), (1, .list 1 (ints xs) false), (5, .int .i64 (i : Int))], mem := [[], [], []] } = some (.ret, { env := [(4, .int .i64 1099511627776)], mem := [[], [], []] }) ∨
    ∃ n', cv tab prim (.loop L26_0) { env := [(0, .int .i64 n), (1, .list 1 (ints xs) false), (5, .int .i64 (i : Int))], mem := [[], [], []] } = some (.exit 0, { env := [(0, .int .i64 n')], mem := [[], [], []] }) := by
  intro k
  induction k with
  | zero =>
    intro i n hi
    right
    have h1 : ¬ (i : Int) < ((ints xs).length : Int) := by simp [ints]; omega
    refine ⟨n, ?_⟩
    rw [cv_loop']
    simp [L26_0, h1]
  | succ k ih =>
    intro i n hi
    have h1 : (i : Int) < ((ints xs).length : Int) := by simp [ints]; omega
    have h1' : i < (ints xs).length := by simpa using h1
    have hlt : i < xs.length := by omega
    have hx : (ints xs)[i] = .int .i64 xs[i] := by simp [ints]
    have hw : IntKind.i64.wrap ((i : Int) + 1) = ((i + 1 : Nat) : Int) := by rw [wrap_small (by omega) (by omega)]; omega
    rw [cv_loop']
    by_cases h2 : 1099511627776 < n
    · left
      simp [L26_0, h1, h2]
    · by_cases h3 : IntKind.i64.wrap (1099511627776 - n) < xs[i]
      · left
        simp [L26_0, h1, h1', h2, h3, idxOk, hx]
      · have := ih (i + 1) (IntKind.i64.wrap (n + xs[i])) (by omega)
        rw [← hw] at this
        simpa [L26_0, h1, h1', h2, h3, idxOk, hx] using this

theorem ev26 (n : Int) (xs : List Int) (hl : xs.length ≤ 1000) (own : Bool) : ∃ r, ev tab prim 26 [.int .i64 n, .list 1 (ints xs) own] [[], []] = some (.int .i64 r, [[], []]) := by
  rw [ev_fn' tab prim (f := 26) rfl _ _ rfl]
  rcases sumLoop xs hl xs.length 0 n (by omega) with h | ⟨n', h⟩
  · refine ⟨1099511627776, ?_⟩
    simp only [Int.natCast_zero] at h
    simp [h]
  · refine ⟨n', ?_⟩
    simp only [Int.natCast_zero] at h
    simp [h]

end Go.Proofs.YtpajgenngpjbaaaGreat.Ev

/- Instructions without the fields that their operation does not have. -/
namespace Go.Proofs.YtpajgenngpjbaaaGreat.Ev
open Go

def mI (b : Bool) (a : Int) : Int := bif b then a else 0
def mS (b : Bool) (a : List UInt8) : List UInt8 := bif b then a else []

end Go.Proofs.YtpajgenngpjbaaaGreat.Ev

/- The law of instructions that are the same. -/
namespace Go.Proofs.YtpajgenngpjbaaaGreat.Ev
open Go

def eq6 (o a b : Int) (c n d : List UInt8) (o' a' b' : Int) (c' n' d' : List UInt8) : Bool := o == o' && (a == a' && (b == b' && (c == c' && (n == n' && d == d'))))

theorem eq6_refl (o a b : Int) (c n d : List UInt8) : eq6 o a b c n d o a b c n d = true := by simp [eq6]
theorem eq6_comm (o a b : Int) (c n d : List UInt8) (o' a' b' : Int) (c' n' d' : List UInt8) : eq6 o' a' b' c' n' d' o a b c n d = eq6 o a b c n d o' a' b' c' n' d' := by
  unfold eq6
  rw [Bool.beq_comm (a := o'), Bool.beq_comm (a := a'), Bool.beq_comm (a := b'), Bool.beq_comm (a := c'), Bool.beq_comm (a := n'), Bool.beq_comm (a := d')]

theorem rseq6 (o a b : Int) (c n d : List UInt8) (o' a' b' : Int) (c' n' d' : List UInt8) :
    rSeq [0, 0, 0, 1, 1, 1] false [.agg [.int .i64 o, .int .i64 a, .int .i64 b, .str c, .str n, .str d], .agg [.int .i64 o', .int .i64 a', .int .i64 b', .str c', .str n', .str d']] =
      some (.bool (eq6 o a b c n d o' a' b' c' n' d')) := by
  unfold eq6
  cases h1 : o == o' <;> cases h2 : a == a' <;> cases h3 : b == b' <;> cases h4 : c == c' <;> cases h5 : n == n' <;> cases h6 : d == d' <;> simp [h1, h2, h3, h4, h5, h6]

theorem mI_mI (b : Bool) (a : Int) : mI b (mI b a) = mI b a := by cases b <;> rfl
theorem mS_mS (b : Bool) (a : List UInt8) : mS b (mS b a) = mS b a := by cases b <;> rfl

def same (o a b : Int) (c n d : List UInt8) (o' a' b' : Int) (c' n' d' : List UInt8) : Bool :=
  eq6 o (mI (rowB o 1) a) (mI (rowB o 2) b) (mS (rowB o 3) c) (mS (rowB o 4) n) (mS (rowB o 5) d) o' (mI (rowB o' 1) a') (mI (rowB o' 2) b') (mS (rowB o' 3) c') (mS (rowB o' 4) n') (mS (rowB o' 5) d')

theorem ev23 (o a b : Int) (c n d : List UInt8) : ∃ r, ev tab prim 23 [.agg [.int .i64 o, .int .i64 a, .int .i64 b, .str c, .str n, .str d]] [[], []] = some (.int .i64 r, [[], []]) := by
  obtain ⟨r, hr⟩ := ev26 1 [(c.length : Int), (n.length : Int), (d.length : Int)] (by simp) false
  refine ⟨r, ?_⟩
  rw [ev_fn' tab prim (f := 23) rfl _ _ rfl]
  simp only [ints, List.map_cons, List.map_nil] at hr
  simp [hr]

set_option linter.constructorNameAsVariable false
theorem tInt {n : Nat} {x : List V} (h : TyC Tryz.prog (n + 1) 3 x) : ∃ m, x = [.int .i64 m] := by
  simp only [TyC, Tryz.underlying3] at h
  obtain ⟨m, h, _⟩ := h; exact ⟨m, h⟩
theorem tStr {n : Nat} {x : List V} (h : TyC Tryz.prog (n + 1) 9 x) : ∃ m, x = [.str m] := by
  simp only [TyC, Tryz.underlying9] at h
  obtain ⟨m, h, _⟩ := h; exact ⟨m, h⟩

end Go.Proofs.YtpajgenngpjbaaaGreat.Ev

/- What may be: a check of an instruction without texts. -/
namespace Go.Proofs.YtpajgenngpjbaaaGreat.Ev
open Go

theorem ev153 (n lo hi : Int) : ev tab prim 153 [.int .i64 n, .int .i64 lo, .int .i64 hi] [[], []] = some (.bool (decide (lo ≤ n) && decide (n ≤ hi)), [[], []]) := by
  rw [ev_fn' tab prim (f := 153) rfl _ _ rfl]
  by_cases h1 : lo ≤ n <;> simp [h1]

theorem ev155 (n : Int) : ev tab prim 155 [.int .i64 n] [[], []] = some (.bool (decide (17 ≤ n) && decide (n ≤ 20)), [[], []]) := by
  rw [ev_fn' tab prim (f := 155) rfl _ _ rfl]
  by_cases h1 : 17 ≤ n <;> simp [h1]

def bare (o a : Int) : V := .agg [.int .i64 o, .int .i64 a, .int .i64 0, .str [], .str [], .str []]
def bares : List Nat := [1, 2, 4, 5, 6, 7, 8, 17, 18, 19, 20, 36, 38]
theorem named_all : (fun a : Int => bares.map fun o : Nat => evF tab prim 30 154 [bare (o : Int) a] [[], []]) = fun _ : Int => bares.map fun _ : Nat => some (.bool true, [[], []]) := by kernel_rfl
theorem named_bare {o : Nat} (ho : o ∈ bares) (a : Int) : ev tab prim 154 [.agg [.int .i64 (o : Int), .int .i64 a, .int .i64 0, .str [], .str [], .str []]] [[], []] = some (.bool true, [[], []]) :=
  ev_of_fuel 30 (List.map_inj_left.1 (congrFun named_all a) o ho)

/-- What Check says, where there is no name to ask for. -/
def chk (o a len loc : Int) : Int :=
  if rowB o 1 = true ∧ (a < -2147483648 ∨ 2147483647 < a) then 5
  else if ((o = 5 ∨ o = 6) ∧ (a < 0 ∨ loc ≤ a)) ∨ ((17 ≤ o ∧ o ≤ 20) ∧ (a < 0 ∨ len ≤ a)) then 4 else 0

set_option maxHeartbeats 4000000 in
theorem ev120 (o a len loc : Int) (hin : inR o = true) (hb : rowB o 2 = false)
    (hn : ev tab prim 154 [.agg [.int .i64 o, .int .i64 a, .int .i64 0, .str [], .str [], .str []]] [[], []] = some (.bool true, [])) :
    ev tab prim 120 [.agg [.int .i64 o, .int .i64 a, .int .i64 0, .str [], .str [], .str []], .int .i64 len, .int .i64 loc] [[], []] = some (.int .i64 (chk o a len loc), [[], []]) := by
  rw [ev_fn' tab prim (f := 120) rfl _ _ rfl]
  have h40 := ev152 o
  rw [shapeOf_eq, hb, hin] at h40
  have lows : a < -2147483648 ∨ 2147483647 < a ∨ (-2147483648 ≤ a ∧ a ≤ 2147483647) := by omega
  by_cases e5 : o = 5
  · subst e5
    have h1 : rowB 5 1 = true := by kernel_rfl
    rw [h1] at h40
    rcases lows with h | h | ⟨h, h'⟩
    · have g : ¬ -2147483648 ≤ a := by omega
      simp [h40, ev153, g, chk, h1, h]
    · have g : -2147483648 ≤ a := by omega
      have g' : ¬ a ≤ 2147483647 := by omega
      simp [h40, ev153, g, g', chk, h1, h]
    · have g : ¬ a < -2147483648 := by omega
      have g' : ¬ 2147483647 < a := by omega
      by_cases l1 : a < 0
      · simp [h40, ev153, h, h', g, g', chk, h1, hn, l1]
      · by_cases l2 : loc ≤ a
        · simp [h40, ev153, h, h', g, g', chk, h1, hn, l1, l2]
        · simp [h40, ev153, ev155, h, h', g, g', chk, h1, hn, l1, l2]
  · by_cases e6 : o = 6
    · subst e6
      have h1 : rowB 6 1 = true := by kernel_rfl
      rw [h1] at h40
      rcases lows with h | h | ⟨h, h'⟩
      · have g : ¬ -2147483648 ≤ a := by omega
        simp [h40, ev153, g, chk, h1, h]
      · have g : -2147483648 ≤ a := by omega
        have g' : ¬ a ≤ 2147483647 := by omega
        simp [h40, ev153, g, g', chk, h1, h]
      · have g : ¬ a < -2147483648 := by omega
        have g' : ¬ 2147483647 < a := by omega
        by_cases l1 : a < 0
        · simp [h40, ev153, h, h', g, g', chk, h1, hn, l1]
        · by_cases l2 : loc ≤ a
          · simp [h40, ev153, h, h', g, g', chk, h1, hn, l1, l2]
          · simp [h40, ev153, ev155, h, h', g, g', chk, h1, hn, l1, l2]
    · have b5 : (o == 5) = false := by simp [e5]
      have b6 : (o == 6) = false := by simp [e6]
      by_cases j : 17 ≤ o ∧ o ≤ 20
      · obtain ⟨j1, j2⟩ := j
        cases h1 : rowB o 1 <;> rw [h1] at h40
        · by_cases l1 : a < 0
          · simp [h40, ev153, ev155, b5, b6, j1, j2, chk, h1, hn, l1, e5, e6]
          · by_cases l2 : len ≤ a
            · simp [h40, ev153, ev155, b5, b6, j1, j2, chk, h1, hn, l1, l2, e5, e6]
            · simp [h40, ev153, ev155, b5, b6, j1, j2, chk, h1, hn, l1, l2, e5, e6]
        · rcases lows with h | h | ⟨h, h'⟩
          · have g : ¬ -2147483648 ≤ a := by omega
            simp [h40, ev153, b5, b6, g, chk, h1, h]
          · have g : -2147483648 ≤ a := by omega
            have g' : ¬ a ≤ 2147483647 := by omega
            simp [h40, ev153, b5, b6, g, g', chk, h1, h]
          · have g : ¬ a < -2147483648 := by omega
            have g' : ¬ 2147483647 < a := by omega
            by_cases l1 : a < 0
            · simp [h40, ev153, ev155, b5, b6, j1, j2, h, h', g, g', chk, h1, hn, l1, e5, e6]
            · by_cases l2 : len ≤ a
              · simp [h40, ev153, ev155, b5, b6, j1, j2, h, h', g, g', chk, h1, hn, l1, l2, e5, e6]
              · simp [h40, ev153, ev155, b5, b6, j1, j2, h, h', g, g', chk, h1, hn, l1, l2, e5, e6]
      · have hj : (decide (17 ≤ o) && decide (o ≤ 20)) = false := by simp; omega
        have h55 := ev155 o
        rw [hj] at h55
        have hch : ¬ (((o = 5 ∨ o = 6) ∧ (a < 0 ∨ loc ≤ a)) ∨ ((17 ≤ o ∧ o ≤ 20) ∧ (a < 0 ∨ len ≤ a))) := by omega
        cases h1 : rowB o 1 <;> rw [h1] at h40
        · have hc : chk o a len loc = 0 := by unfold chk; rw [h1, if_neg hch]; simp
          simp [h40, ev153, h55, b5, b6, hn, hc]
        · rcases lows with h | h | ⟨h, h'⟩
          · have g : ¬ -2147483648 ≤ a := by omega
            have hc : chk o a len loc = 5 := by unfold chk; rw [if_pos ⟨h1, .inl h⟩]
            simp [h40, ev153, b5, b6, g, hc]
          · have g : -2147483648 ≤ a := by omega
            have g' : ¬ a ≤ 2147483647 := by omega
            have hc : chk o a len loc = 5 := by unfold chk; rw [if_pos ⟨h1, .inr h⟩]
            simp [h40, ev153, b5, b6, g, g', hc]
          · have hc : chk o a len loc = 0 := by unfold chk; rw [if_neg (by omega), if_neg hch]
            simp [h40, ev153, h55, b5, b6, h, h', hn, hc]

end Go.Proofs.YtpajgenngpjbaaaGreat.Ev

/- Names. -/
namespace Go.Proofs.YtpajgenngpjbaaaGreat.Ev
open Go

def lett (c : Int) : Bool := (decide (97 ≤ c) && decide (c ≤ 122)) || (decide (65 ≤ c) && decide (c ≤ 90)) || c == 95
def okB (i : Nat) (b : UInt8) : Bool := lett b.toNat || (decide (i ≠ 0) && decide (48 ≤ (b.toNat : Int)) && decide ((b.toNat : Int) ≤ 57))
def allOk : Nat → List UInt8 → Bool
  | _, [] => true
  | i, b :: r => okB i b && allOk (i + 1) r
def nameOk (s : List UInt8) : Bool := allOk 0 s && !s.isEmpty && decide (s.length ≤ 30)

theorem ieq (a b : Int) : (a == b) = decide (a = b) := by rw [Bool.eq_iff_iff]; simp

theorem allOk_at {s : List UInt8} {i : Nat} (h : i < s.length) : allOk i (s.drop i) = (okB i s[i] && allOk (i + 1) (s.drop (i + 1))) := by
  rw [List.drop_eq_getElem_cons h, allOk]

def nameSt (s : List UInt8) (i : Nat) : St := { env := [(0, .str s), (7, .int .i64 (s.length : Int)), (8, .int .i64 (i : Int))], mem := [[], [], []] }
def refSt (s : List UInt8) (i : Nat) : St := { env := [(0, .str s), (3, .int .i64 (i : Int))], mem := [[], [], []] }

set_option maxHeartbeats 4000000 in
theorem nameRound (s : List UInt8) (i : Nat) (hl : s.length ≤ 1000000) (hi : i < s.length) :
    cv tab prim L74_0 (nameSt s i) = if okB i s[i] = true then some (.normal, nameSt s (i + 1)) else some (.ret, { env := [(2, .bool false)], mem := [[], [], []] }) := by
  have h1 : (i : Int) < (s.length : Int) := by omega
  have hw : IntKind.i64.wrap ((i : Int) + 1) = ((i : Int) + 1) := wrap_small (by omega) (by omega)
  have hx : s[i]? = some s[i] := List.getElem?_eq_getElem hi
  generalize s[i] = b at hx ⊢
  obtain ⟨c, hc⟩ : ∃ c : Int, (b.toNat : Int) = c := ⟨_, rfl⟩
  unfold okB nameSt
  rw [hc]
  have w1 : IntKind.i64.wrap 1 = 1 := wrap_small (by omega) (by omega)
  rcases Nat.eq_zero_or_pos i with hz | hz
  · subst hz
    replace h1 : 0 < s.length := hi
    have hx' : s[0] = b := by rw [List.getElem?_eq_getElem h1] at hx; injection hx
    have hne : s ≠ [] := by intro h; rw [h] at h1; cases h1
    by_cases h97 : 97 ≤ c <;> by_cases h122 : c ≤ 122 <;> by_cases h65 : 65 ≤ c <;> by_cases h90 : c ≤ 90 <;> by_cases h95 : c = 95 <;> by_cases h48 : c < 48 <;> by_cases h57 : 57 < c <;>
      first
      | (exfalso; omega)
      | (simp [L74_0, h1, idxOk, hx, hc, h97, h122, h65, h90, h95, h48, h57, w1, hx', hne, ieq, lett]; done)
      | (simp [L74_0, h1, idxOk, hx, hc, h97, h122, h65, h90, h95, h48, h57, w1, hx', hne, ieq, lett]; omega)
  · replace hz : ¬ i = 0 := by omega
    have hz' : ((i : Int) == 0) = false := by simp; omega
    by_cases h97 : 97 ≤ c <;> by_cases h122 : c ≤ 122 <;> by_cases h65 : 65 ≤ c <;> by_cases h90 : c ≤ 90 <;> by_cases h95 : c = 95 <;> by_cases h48 : c < 48 <;> by_cases h57 : 57 < c <;>
      first
      | (exfalso; omega)
      | (simp [L74_0, h1, idxOk, hx, hc, h97, h122, h65, h90, h95, h48, h57, hw, w1, hz, hz', ieq, lett]; done)
      | (simp [L74_0, h1, idxOk, hx, hc, h97, h122, h65, h90, h95, h48, h57, hw, w1, hz, hz', ieq, lett]; omega)

theorem nameEnd (s : List UInt8) : cv tab prim L74_0 (nameSt s s.length) = some (.exit 0, { env := [(0, .str s)], mem := [[], [], []] }) := by
  simp [L74_0, nameSt]

theorem nameLoop (s : List UInt8) (hl : s.length ≤ 1000000) : ∀ (k i : Nat), i + k = s.length → cv tab prim (.loop L74_0) (nameSt s i) =
    if allOk i (s.drop i) = true then some (.exit 0, { env := [(0, .str s)], mem := [[], [], []] }) else some (.ret, { env := [(2, .bool false)], mem := [[], [], []] }) := by
  intro k
  induction k with
  | zero =>
    intro i hi
    obtain rfl : i = s.length := by omega
    rw [cv_loop', nameEnd, List.drop_length]
    simp [allOk]
  | succ k ih =>
    intro i hi
    have hlt : i < s.length := by omega
    rw [cv_loop', nameRound s i hl hlt, allOk_at hlt]
    by_cases hb : okB i s[i] = true
    · rw [if_pos hb, roundK_n, ih (i + 1) (by omega), hb, Bool.true_and]
    · rw [if_neg hb, roundK_r, if_neg (by rw [Bool.and_eq_true]; exact fun h => hb h.1)]

theorem isEmpty_eq (s : List UInt8) : (s == ([] : List UInt8)) = s.isEmpty := by cases s <;> rfl

theorem ev74 (s : List UInt8) (hl : s.length ≤ 1000000) : ev tab prim 74 [.str s] [[], []] = some (.bool (nameOk s), [[], []]) := by
  rw [ev_fn' tab prim (f := 74) rfl _ _ rfl]
  have h := nameLoop s hl s.length 0 (by omega)
  simp only [nameSt, List.drop_zero, Int.natCast_zero] at h
  unfold nameOk
  cases ho : allOk 0 s <;> rw [ho] at h
  · simp [h]
  · cases he : s.isEmpty
    · simp [h, he]; omega
    · simp [h, he]

end Go.Proofs.YtpajgenngpjbaaaGreat.Ev

/- The type that a text begins with, as desc tells it. -/
namespace Go.Proofs.YtpajgenngpjbaaaGreat.Ev
open Go

/-- How long a type a text begins with, that opens with no bracket; 0: none. -/
def body : List UInt8 → Nat
  | [] => 0
  | c :: r => if c = 73 ∨ c = 67 then 1 else if c ≠ 76 then 0 else
    if Lib.indexByte r 59 < 0 then 0 else if nameOk (r.take (Lib.indexByte r 59).toNat) = true then (Lib.indexByte r 59).toNat + 2 else 0
def fr (d : Nat) : List UInt8 → Nat
  | [] => 0
  | c :: r => if 4 < d then 0 else if c = 91 then (if fr (d + 1) r = 0 then 0 else fr (d + 1) r + 1) else body (c :: r)

theorem idx_lt (r : List UInt8) (c : UInt8) : Lib.indexByte r c < r.length ∧ -1 ≤ Lib.indexByte r c := by
  induction r with
  | nil => simp [Lib.indexByte]
  | cons b l ih =>
    unfold Lib.indexByte
    simp only [List.length_cons]
    split
    · omega
    · split
      · omega
      · rename_i h _; simp at h; omega

theorem body_le (s : List UInt8) : body s ≤ s.length := by
  cases s with
  | nil => simp [body]
  | cons c r =>
    have := idx_lt r 59
    unfold body; simp only [List.length_cons]
    repeat' split
    all_goals omega
theorem fr_le (d : Nat) (s : List UInt8) : fr d s ≤ s.length := by
  induction s generalizing d with
  | nil => simp [fr]
  | cons c r ih =>
    have := ih (d + 1)
    unfold fr
    split
    · omega
    · split
      · split
        · omega
        · simp only [List.length_cons]; omega
      · exact body_le _

def nx (s rest : List UInt8) (d : Nat) : St := { env := [(0, .str s), (3, .str rest), (4, .int .i64 (d : Int))], mem := [[], [], []] }
def nxFail (s : List UInt8) : Res := some (.ret, { env := [(2, .str []), (3, .str s)], mem := [[], [], []] })
def nxOk (s rest : List UInt8) : Res := some (.ret, { env := [(2, .str (s.take (s.length - rest.length))), (3, .str rest)], mem := [[], [], []] })

theorem u8 {c : UInt8} {n : Nat} (hn : n < 256) : ((c.toNat : Int) = (n : Int)) ↔ c = n.toUInt8 := by
  constructor
  · intro h
    have : c.toNat = n := by omega
    rw [← this]; simp
  · rintro rfl
    simp; omega

theorem ev147 (s : List UInt8) (c : Int) : ev tab prim 147 [.str s, .int .u8 c] [[], []] = some (.int .i64 (Lib.indexByte s c.toNat.toUInt8), [[], []]) :=
  ev_prim tab prim rfl _ _

theorem findK49 : findL S116_0 0 = some (.seq .skip K116_0) := by rfl

theorem nx_end (s R : List UInt8) (hs : s.length ≤ 100000) (hR : R.length ≤ s.length) : IntKind.i64.wrap ((s.length : Int) - (R.length : Int)) = ((s.length - R.length : Nat) : Int) := by
  rw [wrap_small (by omega) (by omega)]; omega

set_option maxHeartbeats 4000000 in
theorem nx_lone (s r : List UInt8) (c : UInt8) (d : Nat) (hs : s.length ≤ 100000) (hr : r.length + 1 ≤ s.length) (hd : d ≤ 4) (hc : c = 73 ∨ c = 67) :
    cv tab prim K116_0 (nx s (c :: r) d) = nxOk s r := by
  have hd' : ¬ 4 < (d : Int) := by omega
  have he := nx_end s r hs (by omega)
  have hb : s.length - r.length ≤ s.length := by omega
  have l1 : (1 : Int) ≤ (r.length : Int) + 1 := by omega
  rcases hc with rfl | rfl <;> simp [K116_0, nx, nxOk, hd', idxOk, he, hb, l1]

set_option maxHeartbeats 4000000 in
theorem nx_brk (s r : List UInt8) (d : Nat) (hd : d ≤ 4) : cv tab prim K116_0 (nx s (91 :: r) d) = some (.goto 0, nx s r (d + 1)) := by
  have hd' : ¬ 4 < (d : Int) := by omega
  have hw : IntKind.i64.wrap ((d : Int) + 1) = (d : Int) + 1 := wrap_small (by omega) (by omega)
  have l1 : (1 : Int) ≤ (r.length : Int) + 1 := by omega
  simp [K116_0, nx, hd', idxOk, hw, l1]

set_option maxHeartbeats 4000000 in
theorem nx_nil (s : List UInt8) (d : Nat) : cv tab prim K116_0 (nx s [] d) = nxFail s := by
  simp [K116_0, nx, nxFail]

set_option maxHeartbeats 4000000 in
theorem nx_deep (s rest : List UInt8) (d : Nat) (hd : 4 < d) : cv tab prim K116_0 (nx s rest d) = nxFail s := by
  have hd' : 4 < (d : Int) := by omega
  cases rest with
  | nil => exact nx_nil s d
  | cons c r => simp [K116_0, nx, nxFail, hd']

set_option maxHeartbeats 4000000 in
theorem nx_other (s r : List UInt8) (c : UInt8) (d : Nat) (hd : d ≤ 4) (h1 : c ≠ 91) (h2 : c ≠ 73) (h3 : c ≠ 67) (h4 : c ≠ 76) : cv tab prim K116_0 (nx s (c :: r) d) = nxFail s := by
  have hd' : ¬ 4 < (d : Int) := by omega
  have e1 : ((c.toNat : Int) == 91) = false := by rw [ieq]; simp; intro h; exact h1 ((u8 (n := 91) (by omega)).1 h)
  have e2 : ((c.toNat : Int) == 73) = false := by rw [ieq]; simp; intro h; exact h2 ((u8 (n := 73) (by omega)).1 h)
  have e3 : ((c.toNat : Int) == 67) = false := by rw [ieq]; simp; intro h; exact h3 ((u8 (n := 67) (by omega)).1 h)
  have e4 : ((c.toNat : Int) == 76) = false := by rw [ieq]; simp; intro h; exact h4 ((u8 (n := 76) (by omega)).1 h)
  by_cases hk : Lib.indexByte (c :: r) 59 < 0
  · simp [K116_0, nx, nxFail, hd', idxOk, e1, e2, e3, ev147, hk]
  · simp [K116_0, nx, nxFail, hd', idxOk, e1, e2, e3, e4, bne, ev147, hk]

set_option maxHeartbeats 4000000 in
theorem nx_none (s r : List UInt8) (d : Nat) (hd : d ≤ 4) (hk : Lib.indexByte r 59 < 0) : cv tab prim K116_0 (nx s (76 :: r) d) = nxFail s := by
  have hd' : ¬ 4 < (d : Int) := by omega
  have hk' : Lib.indexByte (76 :: r) 59 < 0 := by
    have := (idx_lt r 59).2
    have h1 : Lib.indexByte r 59 = -1 := by omega
    unfold Lib.indexByte
    simp [h1]
  simp [K116_0, nx, nxFail, hd', idxOk, ev147, hk']

set_option maxHeartbeats 4000000 in
theorem nx_class (s r : List UInt8) (d k : Nat) (hs : s.length ≤ 100000) (hr : r.length + 1 ≤ s.length) (hd : d ≤ 4) (hk : Lib.indexByte r 59 = k) :
    cv tab prim K116_0 (nx s (76 :: r) d) = if nameOk (r.take k) = true then nxOk s (r.drop (k + 1)) else nxFail s := by
  have hd' : ¬ 4 < (d : Int) := by omega
  have hl := (idx_lt r 59).1
  rw [hk] at hl
  have hk' : Lib.indexByte (76 :: r) 59 = (k : Int) + 1 := by
    unfold Lib.indexByte
    rw [hk]
    have : ¬ (k : Int) = -1 := by omega
    simp [this]
  have h0 : ¬ (k : Int) + 1 < 0 := by omega
  have hn := ev74 (r.take k) (by rw [List.length_take]; omega)
  have he := nx_end s (r.drop (k + 1)) hs (by rw [List.length_drop]; omega)
  have hw : IntKind.i64.wrap ((k : Int) + 1 + 1) = ((k + 2 : Nat) : Int) := by rw [wrap_small (by omega) (by omega)]; omega
  have b1 : (k : Int) + 1 ≤ (r.length : Int) + 1 := by omega
  have b2 : (0 : Int) ≤ (k : Int) + 1 := by omega
  have b3 : (1 : Int) ≤ (k : Int) + 1 := by omega
  have t1 : ((k : Int) + 1).toNat = k + 1 := by omega
  have b4 : k + 2 ≤ r.length + 1 := by omega
  cases hnm : nameOk (r.take k) <;> rw [hnm] at hn
  · simp [K116_0, nx, nxFail, hd', idxOk, ev147, hk', h0, hn, b1, b2, b3, t1]
  · have hw2 : IntKind.i64.wrap ((k : Int) + 1 + 1) = (k : Int) + 2 := by rw [hw]; omega
    have b5 : (k : Int) + 2 ≤ (r.length : Int) + 1 := by omega
    have b6 : (0 : Int) ≤ (k : Int) + 2 := by omega
    have t2 : ((k : Int) + 2).toNat = k + 2 := by omega
    rw [List.length_drop] at he
    have hb : s.length - (r.length - (k + 1)) ≤ s.length := by omega
    simp [K116_0, nx, nxOk, hd', idxOk, ev147, hk', h0, hn, b1, b2, b3, t1, hw2, b5, b6, t2, he, hb]

theorem nextLoop (s : List UInt8) (hs : s.length ≤ 100000) : ∀ (rest : List UInt8) (d : Nat), rest.length ≤ s.length →
    cj tab prim S116_0 (cv tab prim K116_0 (nx s rest d)) = if fr d rest = 0 then nxFail s else nxOk s (rest.drop (fr d rest)) := by
  intro rest
  induction rest with
  | nil => intro d _; rw [nx_nil]; simp [fr, nxFail]
  | cons c r ih =>
    intro d hr
    rw [List.length_cons] at hr
    by_cases hd : 4 < d
    · rw [nx_deep s _ d hd]
      simp [fr, hd, nxFail]
    · have hd4 : d ≤ 4 := by omega
      by_cases h91 : c = 91
      · subst h91
        rw [nx_brk s r d hd4, cj_g tab prim S116_0 _ 0 findK49, cv_seq', cv_skip, seqK_n, ih (d + 1) (by omega)]
        have hfr : fr d (91 :: r) = if fr (d + 1) r = 0 then 0 else fr (d + 1) r + 1 := by rw [fr, if_neg hd, if_pos rfl]
        rw [hfr]
        by_cases hf : fr (d + 1) r = 0
        · simp [hf]
        · simp [hf]
      · have hfr : fr d (c :: r) = body (c :: r) := by conv => lhs; unfold fr
                                                       simp [hd, h91]
        rw [hfr]
        by_cases hic : c = 73 ∨ c = 67
        · rw [nx_lone s r c d hs hr hd4 hic]
          simp [body, hic, nxOk]
        · by_cases h76 : c = 76
          · subst h76
            by_cases hk : Lib.indexByte r 59 < 0
            · rw [nx_none s r d hd4 hk]
              simp [body, hk, nxFail]
            · obtain ⟨k, hk'⟩ : ∃ k : Nat, Lib.indexByte r 59 = k := ⟨(Lib.indexByte r 59).toNat, by omega⟩
              rw [nx_class s r d k hs hr hd4 hk']
              have hk0 : ¬ (k : Int) < 0 := by omega
              cases hn : nameOk (r.take k) <;> simp [body, hk', hn, hk0, nxOk, nxFail]
          · rw [nx_other s r c d hd4 h91 (fun h => hic (.inl h)) (fun h => hic (.inr h)) h76]
            simp [body, hic, h76, nxFail]

/-- What next answers. -/
def nextV (s : List UInt8) : V := if fr 0 s = 0 then .tup [.str [], .str s] else .tup [.str (s.take (fr 0 s)), .str (s.drop (fr 0 s))]
theorem ev116 (s : List UInt8) (hs : s.length ≤ 100000) : ev tab prim 116 [.str s] [[], []] = some (nextV s, [[], []]) := by
  rw [ev_fn' tab prim (f := 116) rfl _ _ rfl]
  have h := nextLoop s hs s 0 (Nat.le_refl _)
  have hl := fr_le 0 s
  have h1 : cv tab prim S116_0 { env := [(0, .str s)], mem := [[], [], []] } = cv tab prim K116_0 (nx s s 0) := by
    conv => lhs; unfold S116_0
    simp [nx]
  unfold nextV
  by_cases hf : fr 0 s = 0
  · rw [if_pos hf] at h ⊢
    simp only [nxFail] at h
    simp [h1, h]
  · rw [if_neg hf] at h ⊢
    simp only [nxOk, List.length_drop] at h
    have : s.length - (s.length - fr 0 s) = fr 0 s := by omega
    rw [this] at h
    simp [h1, h]

end Go.Proofs.YtpajgenngpjbaaaGreat.Ev

/- The type that a text begins with, as the document tells it. -/
namespace Go.Proofs.YtpajgenngpjbaaaGreat.Ev
open Go

def lead : List UInt8 → Nat
  | [] => 0
  | c :: r => if c = 91 then lead r + 1 else 0
theorem lead_le (s : List UInt8) : lead s ≤ s.length := by
  induction s with
  | nil => simp [lead]
  | cons c r ih => unfold lead; split <;> simp only [List.length_cons] <;> omega

theorem fr_lead (s : List UInt8) : ∀ d, fr d s = if 4 < d + lead s ∨ lead s = s.length ∨ body (s.drop (lead s)) = 0 then 0 else lead s + body (s.drop (lead s)) := by
  induction s with
  | nil => intro d; simp [fr, lead]
  | cons c r ih =>
    intro d
    by_cases hd : 4 < d
    · rw [fr, if_pos hd, if_pos (.inl (by omega))]
    · by_cases hc : c = 91
      · subst hc
        rw [fr, if_neg hd, if_pos rfl, ih (d + 1)]
        have hl : lead (91 :: r) = lead r + 1 := by rw [lead, if_pos rfl]
        rw [hl, List.drop_succ_cons, List.length_cons]
        by_cases hh : 4 < d + 1 + lead r ∨ lead r = r.length ∨ body (r.drop (lead r)) = 0
        · rw [if_pos hh, if_pos rfl, if_pos (by omega)]
        · rw [if_neg hh, if_neg (by omega), if_neg (by omega)]; omega
      · rw [fr, if_neg hd, if_neg hc]
        have hl : lead (c :: r) = 0 := by rw [lead, if_neg hc]
        rw [hl, List.drop_zero, List.length_cons]
        by_cases hb : body (c :: r) = 0
        · rw [if_pos (.inr (.inr hb)), hb]
        · rw [if_neg (by omega)]; omega

def b0 (s : List UInt8) (n : Nat) : St := { env := [(0, .str s), (3, .int .i64 (n : Int))], mem := [[], [], []] }
def b1 (s : List UInt8) (n m : Nat) : St := { env := [(0, .str s), (3, .int .i64 (n : Int)), (4, .int .i64 (m : Int))], mem := [[], [], []] }
/-- Where a ';' stands, or the end. -/
def semi (r : List UInt8) : Nat := if Lib.indexByte r 59 < 0 then r.length else (Lib.indexByte r 59).toNat
theorem semi_cons (c : UInt8) (r : List UInt8) : semi (c :: r) = if c = 59 then 0 else semi r + 1 := by
  have := idx_lt r 59
  unfold semi
  conv => lhs; unfold Lib.indexByte
  by_cases h : c = 59
  · simp [h]
  · by_cases hk : Lib.indexByte r 59 = -1
    · simp [h, hk]
    · have h2 : ¬ Lib.indexByte r 59 < 0 := by omega
      have h3 : ¬ Lib.indexByte r 59 + 1 < 0 := by omega
      simp [h, hk, h2, h3]; omega

end Go.Proofs.YtpajgenngpjbaaaGreat.Ev

/- Types: front, and what is told by it. -/
namespace Go.Proofs.YtpajgenngpjbaaaGreat.Ev
open Go

theorem u8ne {c : UInt8} {n : Nat} (hn : n < 256) (h : c ≠ n.toUInt8) : ((c.toNat : Int) == (n : Int)) = false := by
  rw [ieq]; simp only [decide_eq_false_iff_not]; intro hh; exact h ((u8 hn).1 hh)

end Go.Proofs.YtpajgenngpjbaaaGreat.Ev

/- What is told of a text. -/
namespace Go.Proofs.YtpajgenngpjbaaaGreat.Ev
open Go

def typeOk (s : List UInt8) : Bool := !s.isEmpty && decide (fr 0 s = s.length)

theorem ne_nil (s : List UInt8) : (s == ([] : List UInt8)) = s.isEmpty := by cases s <;> rfl

theorem ev77 (s : List UInt8) (hs : s.length ≤ 100000) : ev tab prim 77 [.str s] [[], []] = some (.bool (typeOk s), [[], []]) := by
  rw [ev_fn' tab prim (f := 77) rfl _ _ rfl]
  have h := ev116 s hs
  have hl := fr_le 0 s
  unfold nextV at h
  unfold typeOk
  by_cases hf : fr 0 s = 0
  · rw [if_pos hf] at h
    have : (!s.isEmpty && decide (fr 0 s = s.length)) = false := by
      rw [hf]; cases s <;> simp
    rw [this]
    simp [h]
  · rw [if_neg hf] at h
    have he : s.isEmpty = false := by cases s with | nil => simp [fr] at hf | cons => rfl
    have ht : (s.take (fr 0 s)).isEmpty = false := by
      cases s with
      | nil => simp [fr] at hf
      | cons c r => cases hh : fr 0 (c :: r) with
        | zero => exact absurd hh hf
        | succ n => rfl
    have hd : (s.drop (fr 0 s)).isEmpty = decide (fr 0 s = s.length) := by
      rw [Bool.eq_iff_iff]; simp [List.isEmpty_iff, List.drop_eq_nil_iff]; omega
    rw [he]
    generalize s.take (fr 0 s) = t at h ht
    generalize s.drop (fr 0 s) = r at h hd
    simp [h, ht, hd]

def refOk (s : List UInt8) : Bool := typeOk s && (!(s == [73]) && !(s == [67]))
theorem ev182 (s : List UInt8) (hs : s.length ≤ 100000) : ev tab prim 182 [.str s] [[], []] = some (.bool (refOk s), [[], []]) := by
  rw [ev_fn' tab prim (f := 182) rfl _ _ rfl]
  have h := ev77 s hs
  unfold refOk
  cases ht : typeOk s <;> rw [ht] at h
  · simp [h]
  · cases h1 : s == [73]
    · simp [h, h1]
    · simp [h, h1]
def mnameOk (s : List UInt8) : Bool := s == [60, 105, 110, 105, 116, 62] || (s == [60, 99, 108, 105, 110, 105, 116, 62] || nameOk s)
theorem ev149 (s : List UInt8) (hs : s.length ≤ 100000) : ev tab prim 149 [.str s] [[], []] = some (.bool (mnameOk s), [[], []]) := by
  rw [ev_fn' tab prim (f := 149) rfl _ _ rfl]
  have h := ev74 s (by omega)
  unfold mnameOk
  cases h1 : s == [60, 105, 110, 105, 116, 62]
  · cases h2 : s == [60, 99, 108, 105, 110, 105, 116, 62]
    · simp [h, h1, h2]
    · simp [h1, h2]
  · simp [h1]
def ofV (s : List UInt8) : List UInt8 := if nameOk s = true then 76 :: (s ++ [59]) else []
def arrV (s : List UInt8) : List UInt8 := if typeOk (91 :: s) = true then 91 :: s else []
theorem ev181 (s : List UInt8) (hs : s.length + 1 ≤ 100000) : ev tab prim 181 [.str s] [[], []] = some (.str (arrV s), [[], []]) := by
  rw [ev_fn' tab prim (f := 181) rfl _ _ rfl]
  have h := ev77 (91 :: s) (by simpa using hs)
  have hb3 : 1 + s.length ≤ 9223372036854775807 := by omega
  unfold arrV
  cases hn : typeOk (91 :: s) <;> rw [hn] at h <;> simp [h, hb3]
def elemV (s : List UInt8) : V := match s with
  | 91 :: r => if typeOk (91 :: r) = true then .tup [.str r, .bool true] else .tup [.str [], .bool false]
  | _ => .tup [.str [], .bool false]
theorem typeOk_nil : typeOk [] = false := by rfl
end Go.Proofs.YtpajgenngpjbaaaGreat.Ev

/- The law of texts that are asked of. -/
namespace Go.Proofs.YtpajgenngpjbaaaGreat.Ev
open Go

def classV (s : List UInt8) : List UInt8 := match s with
  | 76 :: r => if typeOk (76 :: r) = true then r.take (r.length - 1) else []
  | _ => []
theorem typeOk_len {r : List UInt8} (h : typeOk (76 :: r) = true) : 1 ≤ r.length := by
  unfold typeOk at h
  cases r with
  | nil => revert h; decide
  | cons a r => simp

theorem rep_str {K : Know} (s : ByteArray) : Rep K (.string s) (.str s.data.toList) := by
  obtain ⟨d⟩ := s
  exact .str d.toList

theorem elemV_eq (s : List UInt8) : ∃ a b, elemV s = .tup [.str a, .bool b] := by
  unfold elemV
  split
  · split <;> exact ⟨_, _, rfl⟩
  · exact ⟨_, _, rfl⟩

end Go.Proofs.YtpajgenngpjbaaaGreat.Ev

/- A method's type, as desc tells it. -/
namespace Go.Proofs.YtpajgenngpjbaaaGreat.Ev
open Go

def cut (c : UInt8) (s : List UInt8) : List UInt8 × Bool := match s with
  | a :: r => if a = c then (r, true) else (a :: r, false)
  | [] => ([], false)

theorem cut_le (c : UInt8) (s : List UInt8) : (cut c s).1.length ≤ s.length := by
  cases s with
  | nil => simp [cut]
  | cons a q =>
    by_cases h : a = c
    · simp [cut, h]
    · simp [cut, h]

theorem ev196 (s : List UInt8) (c : UInt8) : ev tab prim 196 [.str s, .str [c]] [[], []] = some (.bool (cut c s).2, [[], []]) := by
  rw [ev_fn' tab prim (f := 196) rfl _ _ rfl]
  cases s with
  | nil => simp [cut]
  | cons a r =>
    have l1 : (1 : Int) ≤ (r.length : Int) + 1 := by omega
    by_cases h : a = c
    · subst h; simp [cut, l1]
    · have e : ([a] == [c]) = false := by simp [h]
      simp [cut, l1, h, e]
theorem ev193 (s : List UInt8) (c : UInt8) : ev tab prim 193 [.str s, .str [c]] [[], []] = some (.tup [.str (cut c s).1, .bool (cut c s).2], [[], []]) := by
  rw [ev_fn' tab prim (f := 193) rfl _ _ rfl]
  have h62 := ev196 s c
  cases s with
  | nil => simp only [cut] at h62; simp [cut, h62]
  | cons a r =>
    have l1 : (1 : Int) ≤ (r.length : Int) + 1 := by omega
    by_cases h : a = c
    · subst h; simp only [cut, if_true] at h62; simp [cut, l1, h62]
    · simp only [cut, if_neg h] at h62; simp [cut, h, h62]
theorem ev177 (s : List UInt8) (c : UInt8) : ev tab prim 177 [.str s, .str [c]] [[], []] = some (.tup [.str (cut c s).1, .bool (cut c s).2], [[], []]) := by
  rw [ev_fn' tab prim (f := 177) rfl _ _ rfl]
  simp [ev193]

def prm : Nat → List UInt8 → List (List UInt8) × List UInt8
  | 0, s => ([], s)
  | k + 1, s => if fr 0 s = 0 then ([], s) else (s.take (fr 0 s) :: (prm k (s.drop (fr 0 s))).1, (prm k (s.drop (fr 0 s))).2)

theorem prm_le (k : Nat) : ∀ s, (prm k s).2.length ≤ s.length := by
  induction k with
  | zero => intro s; exact Nat.le_refl _
  | succ k ih =>
    intro s
    unfold prm
    split
    · exact Nat.le_refl _
    · have := ih (s.drop (fr 0 s)); rw [List.length_drop] at this; simp only; omega

def mSt (acc : List V) (rest : List UInt8) (ok : Bool) : St := { env := [(2, .list 1 acc true), (5, .str rest), (6, .bool ok)], mem := [[], [], []] }
def tailOk (rest : List UInt8) : Bool := (cut 41 rest).2 && ((cut 41 rest).1 == [86] || typeOk (cut 41 rest).1)
def mFin (ok : Bool) (acc : List V) (rest : List UInt8) : Res :=
  if (ok && tailOk rest) = true then some (.ret, { env := [(2, .list 1 acc true), (3, .str (cut 41 rest).1), (4, .int .i64 0)], mem := [[], [], []] })
  else some (.ret, { env := [(2, .list 1 [] true), (3, .str []), (4, .int .i64 6)], mem := [[], [], []] })

theorem next_parts (s : List UInt8) : ∃ t r, nextV s = .tup [.str t, .str r] ∧ t ++ r = s ∧ t.isEmpty = decide (fr 0 s = 0) ∧ (fr 0 s ≠ 0 → t = s.take (fr 0 s) ∧ r = s.drop (fr 0 s)) := by
  unfold nextV
  by_cases hf : fr 0 s = 0
  · refine ⟨[], s, by rw [if_pos hf], rfl, by simp [hf], fun h => absurd hf h⟩
  · refine ⟨s.take (fr 0 s), s.drop (fr 0 s), by rw [if_neg hf], List.take_append_drop _ _, ?_, fun _ => ⟨rfl, rfl⟩⟩
    have h1 : s ≠ [] := by rintro rfl; simp [fr] at hf
    rw [decide_eq_false hf]
    cases s with
    | nil => exact absurd rfl h1
    | cons c r => cases hh : fr 0 (c :: r) with
      | zero => exact absurd hh hf
      | succ n => rfl

set_option maxHeartbeats 4000000 in
theorem m_more (acc : List V) (rest : List UInt8) (ok : Bool) (hs : rest.length ≤ 100000) (ha : acc.length < 8) (hf : fr 0 rest ≠ 0) :
    cv tab prim K148_0 (mSt acc rest ok) = some (.goto 0, mSt (acc ++ [.str (rest.take (fr 0 rest))]) (rest.drop (fr 0 rest)) ok) := by
  obtain ⟨t, r, hn, hap, ht, htr⟩ := next_parts rest
  obtain ⟨rfl, rfl⟩ := htr hf
  have h49 := ev116 rest hs
  rw [hn] at h49
  rw [decide_eq_false hf] at ht
  generalize rest.take (fr 0 rest) = t at h49 ht ⊢
  generalize rest.drop (fr 0 rest) = r at h49 ⊢
  have a1 : (acc.length : Int) < 8 := by omega
  have a2 : (acc.length + 1) * 16 ≤ 140737488355328 := by omega
  have a3 : acc.length + 1 ≤ 140737488355328 := by omega
  simp [K148_0, mSt, h49, ht, a1, a2, a3]

set_option maxHeartbeats 8000000 in
theorem m_end (acc : List V) (rest : List UInt8) (ok : Bool) (hs : rest.length ≤ 100000) (he : fr 0 rest = 0 ∨ 8 ≤ acc.length) :
    cv tab prim K148_0 (mSt acc rest ok) = mFin ok acc rest := by
  obtain ⟨t, r, hn, hap, ht, -⟩ := next_parts rest
  have h49 := ev116 rest hs
  rw [hn] at h49
  have hc : (cut 41 rest).1.length ≤ 100000 := Nat.le_trans (cut_le 41 rest) hs
  have h48 := ev177 rest 41
  have h28 := ev77 (cut 41 rest).1 hc
  have hlen : t.length + r.length ≤ 9223372036854775807 := by rw [← List.length_append, hap]; omega
  unfold mFin tailOk
  generalize (cut 41 rest).1 = q at h48 h28 ⊢
  generalize (cut 41 rest).2 = b at h48 ⊢
  by_cases hf : fr 0 rest = 0
  · rw [decide_eq_true hf] at ht
    cases ok
    · simp [K148_0, mSt, h49, ht, hlen, hap, h48]
    · cases b
      · simp [K148_0, mSt, h49, ht, hlen, hap, h48]
      · cases hv : q == [86]
        · cases hty : typeOk q <;> rw [hty] at h28 <;> simp [K148_0, mSt, h49, ht, hlen, hap, h48, h28, hv]
        · simp [K148_0, mSt, h49, ht, hlen, hap, h48, hv]
  · rw [decide_eq_false hf] at ht
    have a1 : ¬ (acc.length : Int) < 8 := by rcases he with h | h <;> omega
    cases ok
    · simp [K148_0, mSt, h49, ht, a1, hlen, hap, h48]
    · cases b
      · simp [K148_0, mSt, h49, ht, a1, hlen, hap, h48]
      · cases hv : q == [86]
        · cases hty : typeOk q <;> rw [hty] at h28 <;> simp [K148_0, mSt, h49, ht, a1, hlen, hap, h48, h28, hv]
        · simp [K148_0, mSt, h49, ht, a1, hlen, hap, h48, hv]

theorem findK14 : findL S148_0 0 = some (.seq .skip K148_0) := by rfl

theorem methLoop (ok : Bool) : ∀ (k : Nat) (acc : List V) (rest : List UInt8), acc.length + k = 8 → rest.length ≤ 100000 →
    cj tab prim S148_0 (cv tab prim K148_0 (mSt acc rest ok)) = mFin ok (acc ++ (prm k rest).1.map .str) (prm k rest).2 := by
  intro k
  induction k with
  | zero =>
    intro acc rest ha hs
    rw [m_end acc rest ok hs (.inr (by omega))]
    simp only [prm, List.map_nil, List.append_nil]
    unfold mFin; split <;> rw [cj_r]
  | succ k ih =>
    intro acc rest ha hs
    by_cases hf : fr 0 rest = 0
    · rw [m_end acc rest ok hs (.inl hf)]
      have : prm (k + 1) rest = ([], rest) := by rw [prm, if_pos hf]
      simp only [this, List.map_nil, List.append_nil]
      unfold mFin; split <;> rw [cj_r]
    · rw [m_more acc rest ok hs (by omega) hf, cj_g tab prim S148_0 _ 0 findK14, cv_seq', cv_skip, seqK_n, ih _ _ (by simp; omega) (by rw [List.length_drop]; omega)]
      have : prm (k + 1) rest = (rest.take (fr 0 rest) :: (prm k (rest.drop (fr 0 rest))).1, (prm k (rest.drop (fr 0 rest))).2) := by rw [prm, if_neg hf]
      simp [this]

/-- What a method's type is. -/
def methV (s : List UInt8) : V :=
  if ((cut 40 s).2 && tailOk (prm 8 (cut 40 s).1).2) = true then .tup [.list 1 ((prm 8 (cut 40 s).1).1.map .str) true, .str (cut 41 (prm 8 (cut 40 s).1).2).1, .int .i64 0]
  else .tup [.list 1 [] true, .str [], .int .i64 6]

theorem ev148 (s : List UInt8) (hs : s.length ≤ 100000) : ev tab prim 148 [.str s] [[], []] = some (methV s, [[], []]) := by
  rw [ev_fn' tab prim (f := 148) rfl _ _ rfl]
  have hc : (cut 40 s).1.length ≤ 100000 := Nat.le_trans (cut_le 40 s) hs
  have h := methLoop (cut 40 s).2 8 [] (cut 40 s).1 rfl hc
  have h1 : cv tab prim S148_0 { env := [(0, .str s), (2, .list 1 [] true)], mem := [[], [], []] } = cv tab prim K148_0 (mSt [] (cut 40 s).1 (cut 40 s).2) := by
    conv => lhs; unfold S148_0
    simp [mSt, ev177]
  unfold methV
  simp only [mFin, List.nil_append] at h
  split at h <;> rename_i hh
  · rw [if_pos hh]
    simp [h1, h]
  · rw [if_neg hh]
    simp [h1, h]

end Go.Proofs.YtpajgenngpjbaaaGreat.Ev

/- A method's type, as the document tells it; the law of both. -/
namespace Go.Proofs.YtpajgenngpjbaaaGreat.Ev
open Go

def rSt (acc : List V) (rest : List UInt8) : St := { env := [(0, .str rest), (5, .list 1 acc true)], mem := [[], [], []] }
def rFail : Res := some (.ret, { env := [(2, .list 1 [] true), (3, .str []), (4, .int .i64 6)], mem := [[], [], []] })
def stopB : List UInt8 → Bool
  | [] => true
  | c :: _ => c == 41

theorem stop_fr {rest : List UInt8} (h : stopB rest = true) : fr 0 rest = 0 := by
  cases rest with
  | nil => rfl
  | cons c q =>
    obtain rfl : c = 41 := by simpa [stopB] using h
    simp [fr, body]

end Go.Proofs.YtpajgenngpjbaaaGreat.Ev

/- The law of methods' types. -/
namespace Go.Proofs.YtpajgenngpjbaaaGreat.Ev
open Go

def strs (xs : List (List UInt8)) : List V := xs.map V.str

theorem ev151 (xs : List V) (o : Bool) : ev tab prim 151 [.list 1 xs o] [[], []] = some (.int .i64 xs.length, [[], []]) := by
  rw [ev_fn' tab prim (f := 151) rfl _ _ rfl]
  simp

theorem prm_few (k : Nat) : ∀ s, (prm k s).1.length ≤ k := by
  induction k with
  | zero => intro s; simp [prm]
  | succ k ih =>
    intro s
    unfold prm
    split
    · simp
    · have := ih (s.drop (fr 0 s)); simp only [List.length_cons]; omega

theorem methV_parts (s : List UInt8) : ∃ ps q e, methV s = .tup [.list 1 (strs ps) true, .str q, .int .i64 e] ∧ ps.length ≤ 8 := by
  unfold methV
  split
  · exact ⟨_, _, _, rfl, prm_few 8 _⟩
  · exact ⟨[], [], 6, rfl, by simp⟩

end Go.Proofs.YtpajgenngpjbaaaGreat.Ev

/- Keys. -/
namespace Go.Proofs.YtpajgenngpjbaaaGreat.Ev
open Go

def methOk (s : List UInt8) : Bool := (cut 40 s).2 && tailOk (prm 8 (cut 40 s).1).2
theorem methV_ok (s : List UInt8) : ∃ ps q, methV s = .tup [.list 1 (strs ps) true, .str q, .int .i64 (if methOk s = true then 0 else 6)] := by
  unfold methV methOk
  split
  · exact ⟨_, _, rfl⟩
  · exact ⟨[], [], rfl⟩

def keyV (c n d : List UInt8) : List UInt8 := if (methOk d && (nameOk c && mnameOk n)) = true then c ++ 46 :: (n ++ d) else []

def isp (s : List UInt8) (c : UInt8) (i : Nat) : Prop := Lib.indexByte s c = i
def splitV (s : List UInt8) : V :=
  if Lib.indexByte s 46 < 0 ∨ Lib.indexByte s 40 < Lib.indexByte s 46 ∨
    keyV (s.take (Lib.indexByte s 46).toNat) ((s.take (Lib.indexByte s 40).toNat).drop ((Lib.indexByte s 46).toNat + 1)) (s.drop (Lib.indexByte s 40).toNat) = []
  then .tup [.str [], .str [], .str [], .int .i64 6]
  else .tup [.str (s.take (Lib.indexByte s 46).toNat), .str ((s.take (Lib.indexByte s 40).toNat).drop ((Lib.indexByte s 46).toNat + 1)), .str (s.drop (Lib.indexByte s 40).toNat), .int .i64 0]

theorem idx_at {c : UInt8} : ∀ {s : List UInt8} {i : Nat}, Lib.indexByte s c = i → s[i]? = some c := by
  intro s
  induction s with
  | nil => intro i h; simp [Lib.indexByte] at h; try omega
  | cons b l ih =>
    intro i h
    unfold Lib.indexByte at h
    by_cases hb : b = c
    · subst hb; simp at h; obtain rfl : i = 0 := by omega
      rfl
    · by_cases hk : Lib.indexByte l c = -1
      · simp [hb, hk] at h; try omega
      · simp [hb, hk] at h
        have := (idx_lt l c).2
        obtain ⟨j, rfl⟩ : ∃ j, i = j + 1 := ⟨i - 1, by omega⟩
        simpa using ih (i := j) (by omega)

theorem idx_ne {s : List UInt8} {i j : Nat} (hi : Lib.indexByte s 46 = i) (hj : Lib.indexByte s 40 = j) (h : i ≤ j) : i + 1 ≤ j := by
  have h1 := idx_at hi
  have h2 := idx_at hj
  by_cases e : i = j
  · subst e; rw [h1] at h2; cases h2
  · omega

end Go.Proofs.YtpajgenngpjbaaaGreat.Ev

/- Rows of whole types; round numbers. -/
namespace Go.Proofs.YtpajgenngpjbaaaGreat.Ev
open Go

/-- A whole type: whatever follows, a text that opens with it begins with it. -/
def Whole (t : List UInt8) : Prop := t ≠ [] ∧ ∀ rest, fr 0 (t ++ rest) = t.length

theorem prm_row : ∀ (k : Nat) (ts : List (List UInt8)) (rest : List UInt8), (∀ t ∈ ts, Whole t) → fr 0 rest = 0 →
    prm k (ts.flatten ++ rest) = (ts.take k, (ts.drop k).flatten ++ rest) := by
  intro k
  induction k with
  | zero => intro ts rest _ _; simp [prm]
  | succ k ih =>
    intro ts rest hw hr
    cases ts with
    | nil => simp [prm, hr]
    | cons t ts =>
      have ht := hw t (List.mem_cons_self ..)
      have h1 : fr 0 ((t :: ts).flatten ++ rest) = t.length := by
        rw [List.flatten_cons, List.append_assoc]; exact ht.2 _
      have h0 : t.length ≠ 0 := by intro h; exact ht.1 (List.length_eq_zero_iff.1 h)
      have i1 := ih ts rest (fun u hu => hw u (List.mem_cons_of_mem _ hu)) hr
      rw [prm, h1, if_neg h0, List.flatten_cons, List.append_assoc, List.take_left, List.drop_left, i1]
      simp

theorem w_I : Whole [73] := ⟨by simp, fun rest => by simp [fr, body]⟩
theorem w_C : Whole [67] := ⟨by simp, fun rest => by simp [fr, body]⟩
theorem n_A : nameOk [65] = true := by decide
theorem n_B : nameOk [66, 99, 95, 49] = true := by decide
theorem w_LA : Whole [76, 65, 59] := ⟨by simp, fun rest => by simp [fr, body, Lib.indexByte, n_A]⟩
theorem w_BI : Whole [91, 73] := ⟨by simp, fun rest => by simp [fr, body]⟩
theorem w_BLA : Whole [91, 76, 65, 59] := ⟨by simp, fun rest => by simp [fr, body, Lib.indexByte, n_A]⟩
theorem w_BBL : Whole [91, 91, 76, 66, 99, 95, 49, 59] := ⟨by simp, fun rest => by simp [fr, body, Lib.indexByte, n_B]⟩

theorem whole_type {t : List UInt8} (h : Whole t) : typeOk t = true := by
  have h1 := h.2 []
  rw [List.append_nil] at h1
  have : t.isEmpty = false := by cases t with | nil => exact absurd rfl h.1 | cons => rfl
  simp [typeOk, this, h1]

/-- A number from 0 to ahead of n. -/
def round (k n : Int) : Int := if k.tmod n < 0 then k.tmod n + n else k.tmod n
theorem round_in (k n : Int) (hn : 0 < n) : 0 ≤ round k n ∧ round k n < n := by
  have h1 := Int.tmod_lt_of_pos k hn
  have h2 : -n < k.tmod n := by
    have := Int.tmod_lt_of_pos (-k) hn
    rw [Int.neg_tmod] at this; omega
  unfold round
  split <;> omega
/-- What a method's type is: a row of whole types between '(' and ')', and a type or V. -/
theorem meth_row (ts : List (List UInt8)) (r : List UInt8) (hw : ∀ t ∈ ts, Whole t) (hr : r = [86] ∨ Whole r) (hn : ts.length ≤ 8) :
    methV (40 :: (ts.flatten ++ 41 :: r)) = .tup [.list 1 (strs ts) true, .str r, .int .i64 0] := by
  have h0 : fr 0 (41 :: r) = 0 := by simp [fr, body]
  have hp := prm_row 8 ts (41 :: r) hw h0
  rw [List.take_of_length_le hn, List.drop_of_length_le hn, List.flatten_nil, List.nil_append] at hp
  have ht : tailOk (41 :: r) = true := by
    unfold tailOk cut
    simp
    rcases hr with hr | hr
    · left; exact hr
    · right; exact whole_type hr
  unfold methV
  have hc : cut 40 (40 :: (ts.flatten ++ 41 :: r)) = (ts.flatten ++ 41 :: r, true) := by simp [cut]
  rw [hc, hp, ht]
  simp [cut, strs]

theorem meth_bad (ts : List (List UInt8)) (q : List UInt8) (hw : ∀ t ∈ ts, Whole t) (hq : fr 0 q = 0) (hb : tailOk q = false ∨ 8 < ts.length) :
    methV (40 :: (ts.flatten ++ q)) = .tup [.list 1 [] true, .str [], .int .i64 6] := by
  have hp := prm_row 8 ts q hw hq
  have hc : cut 40 (40 :: (ts.flatten ++ q)) = (ts.flatten ++ q, true) := by simp [cut]
  have ht : tailOk ((ts.drop 8).flatten ++ q) = false := by
    by_cases hl : ts.length ≤ 8
    · rw [List.drop_of_length_le hl, List.flatten_nil, List.nil_append]
      rcases hb with h | h
      · exact h
      · omega
    · cases hd : ts.drop 8 with
      | nil => have := congrArg List.length hd; rw [List.length_drop] at this; simp at this; omega
      | cons t u =>
        have hm : t ∈ ts := List.mem_of_mem_drop (by rw [hd]; exact List.mem_cons_self ..)
        have hwt := hw t hm
        cases t with
        | nil => exact absurd rfl hwt.1
        | cons a t' =>
          have ha : a ≠ 41 := by
            rintro rfl
            have := hwt.2 []
            simp [fr, body] at this
          rw [List.flatten_cons]
          simp [tailOk, cut, ha]
  unfold methV
  rw [hc, hp, ht]
  simp

end Go.Proofs.YtpajgenngpjbaaaGreat.Ev

/- Calls: whether they may be, what they take and lay. -/
namespace Go.Proofs.YtpajgenngpjbaaaGreat.Ev
open Go

theorem ev180 (n : Int) : ev tab prim 180 [.int .i64 n] [[], []] = some (.bool (decide (32 ≤ n) && decide (n ≤ 35)), [[], []]) := by
  rw [ev_fn' tab prim (f := 180) rfl _ _ rfl]
  by_cases h1 : 32 ≤ n <;> simp [h1]
theorem ev179 (n : Int) : ev tab prim 179 [.int .i64 n] [[], []] = some (.bool (decide (22 ≤ n) && decide (n ≤ 25)), [[], []]) := by
  rw [ev_fn' tab prim (f := 179) rfl _ _ rfl]
  by_cases h1 : 22 ≤ n <;> simp [h1]

def callI (o : Int) (d : List UInt8) : V := .agg [.int .i64 o, .int .i64 0, .int .i64 0, .str [65], .str [109], .str d]

set_option maxHeartbeats 8000000 in
theorem named_call (o : Int) (ho : o = 32 ∨ o = 33 ∨ o = 34 ∨ o = 35) (d : List UInt8) (hd : d.length ≤ 100000) : ev tab prim 154 [callI o d] [[], []] = some (.bool (methOk d), [[], []]) := by
  have h14 := ev148 d hd
  obtain ⟨ps, q, hm⟩ := methV_ok d
  rw [hm] at h14
  have hA : ev tab prim 74 [.str [65]] [[], []] = some (.bool true, [[], []]) := by rw [ev74 _ (by simp)]; rfl
  have hB : ev tab prim 74 [.str [109]] [[], []] = some (.bool true, [[], []]) := by rw [ev74 _ (by simp)]; rfl
  unfold callI
  rw [ev_fn' tab prim (f := 154) rfl _ _ rfl]
  cases h : methOk d <;> rw [h] at h14 <;> rcases ho with rfl | rfl | rfl | rfl <;> simp [h14, hA, hB, ev180, ev179]

set_option maxHeartbeats 8000000 in
theorem check_call (o : Int) (ho : o = 32 ∨ o = 33 ∨ o = 34 ∨ o = 35) (d : List UInt8) (hd : d.length ≤ 100000) :
    ev tab prim 120 [callI o d, .int .i64 1, .int .i64 1] [[], []] = some (.int .i64 (if methOk d = true then 0 else 6), [[], []]) := by
  have hn := named_call o ho d hd
  have h40 := ev152 o
  have hs : shapeOf o = [.bool false, .bool false, .bool true, .bool true, .bool true] ∧ inR o = true := by
    rcases ho with rfl | rfl | rfl | rfl <;> exact ⟨by kernel_rfl, by kernel_rfl⟩
  rw [hs.1, hs.2] at h40
  have e5 : (o == 5) = false := by rcases ho with rfl | rfl | rfl | rfl <;> rfl
  have e6 : (o == 6) = false := by rcases ho with rfl | rfl | rfl | rfl <;> rfl
  have h55 := ev155 o
  have hj : (decide (17 ≤ o) && decide (o ≤ 20)) = false := by rcases ho with rfl | rfl | rfl | rfl <;> rfl
  rw [hj] at h55
  unfold callI at hn ⊢
  rw [ev_fn' tab prim (f := 120) rfl _ _ rfl]
  cases h : methOk d <;> rw [h] at hn <;> simp [hn, h40, e5, e6, h55]

end Go.Proofs.YtpajgenngpjbaaaGreat.Ev
