/- The pool of a class. -/
import Derived.Test.YtgmlanhhjmhmmaaGreatGb
namespace Go.Proofs.YtgmlanhhjmhmmaaGreat.Ev
open Go

abbrev Tx := List UInt8
def add1 (l : List Tx) (s : Tx) : List Tx := bif l.contains s then l else l ++ [s]
def addL (l xs : List Tx) : List Tx := xs.foldl add1 l
theorem addL_append (l xs ys : List Tx) : addL l (xs ++ ys) = addL (addL l xs) ys := List.foldl_append
theorem add1_len (l : List Tx) (s : Tx) : (add1 l s).length ≤ l.length + 1 := by
  unfold add1; cases l.contains s <;> simp
theorem addL_len : ∀ (xs l : List Tx), (addL l xs).length ≤ l.length + xs.length
  | [], l => by simp [addL]
  | x :: r, l => by have := addL_len r (add1 l x); have := add1_len l x; simp only [addL, List.foldl_cons, List.length_cons] at *; omega

/-- The place of a text. -/
def posOf : Nat → List Tx → Tx → Option Nat
  | _, [], _ => none
  | k, x :: r, s => bif s == x then some k else posOf (k + 1) r s
def idxV (k n : Nat) : List V := (List.range' k n).map fun i : Nat => V.int .i64 (i : Int)

theorem posOf_none : ∀ (l : List Tx) (k : Nat) (s : Tx), (posOf k l s).isSome = l.contains s
  | [], k, s => rfl
  | x :: r, k, s => by
    rw [posOf, List.contains_cons]
    cases h : s == x
    · simpa using posOf_none r (k + 1) s
    · simp

theorem findK_pool : ∀ (l : List Tx) (k : Nat) (s : Tx), findK (l.map V.str) (idxV k l.length) (.str s) = (posOf k l s).map fun i : Nat => V.int .i64 (i : Int)
  | [], k, s => rfl
  | x :: r, k, s => by
    have := findK_pool r (k + 1) s
    simp only [idxV, List.length_cons, List.range'_succ, List.map_cons, findK, keyEq, posOf] at this ⊢
    cases h : s == x
    · simpa using this
    · simp

theorem setK_pool : ∀ (l : List Tx) (k : Nat) (s : Tx) (y : V), l.contains s = false → setK (l.map V.str) (idxV k l.length) (.str s) y = (l.map V.str ++ [.str s], idxV k l.length ++ [y])
  | [], k, s, y, _ => rfl
  | x :: r, k, s, y, h => by
    rw [List.contains_cons, Bool.or_eq_false_iff] at h
    have := setK_pool r (k + 1) s y h.2
    simp only [idxV, List.length_cons, List.range'_succ, List.map_cons, setK, keyEq, h.1] at this ⊢
    rw [this]; rfl

theorem idxV_succ (n : Nat) : idxV 0 n ++ [V.int .i64 (n : Int)] = idxV 0 (n + 1) := by
  unfold idxV; rw [List.range'_concat]; simp

/-- The pool in memory, its map ahead of it. -/
def pO (l : List Tx) : Boxes := [(0, [.mapv none (l.map V.str) (idxV 0 l.length)])]
def pA (l : List Tx) : Boxes := [(0, [.list 1 (l.map V.str) true, .mref 0])]
def pM (l : List Tx) : Mem := [pO l, pA l]

theorem addStep (l : List Tx) (xs : List Tx) (b0 b1 : Boxes) (i : Nat) (hi : i < xs.length) (hx : xs.length ≤ 1000000) (hl : l.length ≤ 1000000) :
    cv tab prim L58_0 { env := [(0, .ptr 0 0 0), (8, .list 1 (xs.map V.str) false), (9, .int .i64 xs.length), (10, .int .i64 i)], mem := [] :: b0 :: b1 :: pM l } =
      some (.normal, { env := [(0, .ptr 0 0 0), (8, .list 1 (xs.map V.str) false), (9, .int .i64 xs.length), (10, .int .i64 (i + 1 : Nat))], mem := [] :: b0 :: b1 :: pM (add1 l xs[i]) }) := by
  have a1 : (i : Int) < (xs.length : Int) := by omega
  have hw := wrap_succ hi (by unfold maxLen; omega)
  have hx' : (xs.map V.str)[i]? = some (.str xs[i]) := by simp [hi]
  generalize xs[i] = s at hx'
  have hf := findK_pool l 0 s
  have hp := posOf_none l 0 s
  cases h : l.contains s
  · rw [h] at hp
    have hs := setK_pool l 0 s (.int .i64 l.length) h
    rw [idxV_succ] at hs
    have hn : posOf 0 l s = none := by cases hq : posOf 0 l s with
      | none => rfl
      | some _ => rw [hq] at hp; cases hp
    rw [hn] at hf
    have c1 : (l.length + 1) * 16 ≤ 140737488355328 := by omega
    have c2 : l.length + 1 ≤ 140737488355328 := by omega
    have ha : add1 l s = l ++ [s] := by simp only [add1, h]; rfl
    rw [ha]
    simp [L58_0, pM, pO, pA, a1, hw, idxOk, hx', hf, hs, mapAns, c1, c2]
  · rw [h] at hp
    obtain ⟨p, hn⟩ := Option.isSome_iff_exists.1 hp
    rw [hn] at hf
    have ha : add1 l s = l := by simp only [add1, h]; rfl
    rw [ha]
    simp [L58_0, pM, pO, pA, a1, hw, idxOk, hx', hf, mapAns]

theorem addL_take (l xs : List Tx) (i : Nat) (h : i < xs.length) : addL l (xs.take (i + 1)) = add1 (addL l (xs.take i)) xs[i] := foldl_take _ _ _ _ h

theorem ev_add (l xs : List Tx) (b0 b1 : Boxes) (o : Bool) (hx : l.length + xs.length ≤ 1000000) :
    ev tab prim 58 [.ptr 0 0 0, .list 1 (xs.map V.str) o] (b0 :: b1 :: pM l) = some (.tup [], b0 :: b1 :: pM (addL l xs)) := by
  have hL := loop_all (b := L58_0) (fun i => { env := [(0, .ptr 0 0 0), (8, .list 1 (xs.map V.str) false), (9, .int .i64 xs.length), (10, .int .i64 i)], mem := [] :: b0 :: b1 :: pM (addL l (xs.take i)) }) xs.length (.exit 0, { env := [], mem := [] :: b0 :: b1 :: pM (addL l xs) })
    (fun i hi => by
      rw [addStep _ xs b0 b1 i hi (by omega) (by have := addL_len (xs.take i) l; rw [List.length_take] at this; omega), addL_take l xs i hi])
    (by rw [List.take_length]; simp [L58_0]) (by simp)
  simp only [Int.natCast_zero, List.take_zero] at hL
  rw [show addL l [] = l from rfl] at hL
  rw [ev_fn' tab prim (f := 58) rfl _ _ rfl]
  simp [hL]

def Ins.texts (x : Ins) : List Tx := (bif rowB x.o 3 then [x.c] else []) ++ ((bif rowB x.o 4 then [x.n] else []) ++ (bif rowB x.o 5 then [x.d] else []))

set_option maxHeartbeats 4000000 in
theorem ev_texts (x : Ins) : ev tab prim 59 [x.v] [[], []] = some (.list 1 (x.texts.map V.str) true, [[], []]) := by
  have h40 := ev61 x.o
  rw [shapeOf_eq] at h40
  unfold Ins.v Ins.texts
  rw [ev_fn' tab prim (f := 59) rfl _ _ rfl]
  cases h3 : rowB x.o 3 <;> cases h4 : rowB x.o 4 <;> cases h5 : rowB x.o 5 <;> rw [h3, h4, h5] at h40 <;> simp [h40]

end Go.Proofs.YtgmlanhhjmhmmaaGreat.Ev
