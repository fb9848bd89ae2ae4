/- The reference's ParseLine. -/
import Derived.Test.YtgmlanhhjmhmmaaDoorYh
namespace Go.Proofs.YtgmlanhhjmhmmaaDoor.Ev
open Go

def pad (l : List (List UInt8)) : List (List UInt8) := (l.drop 1).take 8 ++ List.replicate (8 - ((l.drop 1).take 8).length) []
theorem pad_len (l : List (List UInt8)) : (pad l).length = 8 := by
  unfold pad
  rw [List.length_append, List.length_replicate]
  have : ((l.drop 1).take 8).length ≤ 8 := by rw [List.length_take]; omega
  omega
def wk (l : List (List UInt8)) (k : Nat) : List UInt8 := (pad l).getD k []
def nIf (f : Bool) (l : List (List UInt8)) (k : Nat) : Int := bif f then (numV (wk l k)).1 else 0
def tIf (f : Bool) (l : List (List UInt8)) (k : Nat) : List UInt8 := bif f then wk l k else []
def up (f : Bool) (k : Nat) : Nat := bif f then k + 1 else k
def candR (s : List UInt8) : Ins :=
  let l := cutV s
  let o := opOfV (l.headD [])
  let k1 := up (rowB o 1) 0
  let k2 := up (rowB o 2) k1
  let k3 := up (rowB o 3) k2
  let k4 := up (rowB o 4) k3
  ⟨o, nIf (rowB o 1) l 0, nIf (rowB o 2) l k1, tIf (rowB o 3) l k2, tIf (rowB o 4) l k3, tIf (rowB o 5) l k4⟩
def refP (s : List UInt8) : Ins × Int := bif ((candR s).o != 0) && ((candR s).line == s) then (candR s, 0) else (zI, 7)

/-! ### The word's operation -/
def roSt (s : List UInt8) (ls : List V) (cur : Int) (i : Int) : St := { env := [(0, .str s), (2, .ptr 2 2 0), (4, .list 1 ls false), (5, .ptr 2 5 0), (6, .int .i64 i)], mem := [[(2, [.int .i64 0, .int .i64 0, .int .i64 0, .str [], .str [], .str []]), (5, [.int .i64 cur, .int .i64 0, .int .i64 0, .str [], .str [], .str []])], [], []] }
def roEnd (s : List UInt8) (ls : List V) (cur : Int) : St := { env := [(0, .str s), (2, .ptr 2 2 0), (4, .list 1 ls false), (5, .ptr 2 5 0)], mem := [[(2, [.int .i64 0, .int .i64 0, .int .i64 0, .str [], .str [], .str []]), (5, [.int .i64 cur, .int .i64 0, .int .i64 0, .str [], .str [], .str []])], [], []] }

theorem refOp (s w : List UInt8) (ls : List V) : cv tab prim (.loop L10_0) (roSt s (.str w :: ls) 0 1) = some (.exit 0, roEnd s (.str w :: ls) (opOfV w)) := by
  have step : ∀ (i : Nat) (cur : Int), 1 ≤ i → i ≤ 38 → cv tab prim L10_0 (roSt s (.str w :: ls) cur i) =
      some (.normal, roSt s (.str w :: ls) (if wordOf (i : Int) = w then (i : Int) else cur) ((i + 1 : Nat) : Int)) := by
    intro i cur h1 h2
    have hw := ev_refWord (i : Int)
    have w1 : IntKind.i64.wrap ((i : Int) + 1) = ((i : Int) + 1) := wrap_small (by omega) (by omega)
    have h3 : (i : Int) ≤ 38 := by omega
    have h4 : idxOk 0 ((V.str w :: ls).length) = true := by simp [idxOk]
    unfold roSt
    by_cases he : wordOf (i : Int) = w
    · rw [if_pos he]
      have e : (wordOf (i : Int) == w) = true := by simpa using he
      generalize wordOf (i : Int) = z at *
      simp at h4
      simp [L10_0, h3, h4, hw, e, w1]
    · rw [if_neg he]
      have e : (wordOf (i : Int) == w) = false := by simpa using he
      generalize wordOf (i : Int) = z at *
      simp at h4
      simp [L10_0, h3, h4, hw, e, w1]
  have run : ∀ (k i : Nat) (cur : Int), 1 ≤ i → i + k ≤ 39 → (∀ j, i ≤ j → j < i + k → wordOf (j : Int) ≠ w) →
      cv tab prim (.loop L10_0) (roSt s (.str w :: ls) cur i) = cv tab prim (.loop L10_0) (roSt s (.str w :: ls) cur ((i + k : Nat) : Int)) := by
    intro k
    induction k with
    | zero => intro i cur _ _ _; rfl
    | succ k ih =>
      intro i cur h1 h2 h3
      conv => lhs; rw [cv_loop', step i cur h1 (by omega), if_neg (h3 i (Nat.le_refl _) (by omega)), roundK_n]
      rw [ih (i + 1) cur (by omega) (by omega) (fun j hj1 hj2 => h3 j (by omega) (by omega)), show i + 1 + k = i + (k + 1) by omega]
  have fin : ∀ cur, cv tab prim (.loop L10_0) (roSt s (.str w :: ls) cur 39) = some (.exit 0, roEnd s (.str w :: ls) cur) := by
    intro cur
    rw [cv_loop']
    simp [roSt, roEnd, L10_0]
  rcases opOfV_cases w with ⟨n, h1, h2, h3, h4, _, h5⟩ | ⟨h3, h4⟩
  · have hr := run (n - 1) 1 0 (Nat.le_refl _) (by omega) (fun j hj1 hj2 => h5 j hj1 (by omega) (by omega))
    have hr2 := run (38 - n) (n + 1) n (by omega) (by omega) (fun j hj1 hj2 => h5 j (by omega) (by omega) (by omega))
    rw [show 1 + (n - 1) = n by omega] at hr
    rw [show n + 1 + (38 - n) = 39 by omega] at hr2
    refine hr.trans ?_
    rw [cv_loop', step n 0 h1 h2, if_pos h4, roundK_n, hr2, h3]
    exact fin n
  · have hr := run 38 1 0 (Nat.le_refl _) (by omega) (fun j hj1 hj2 => h4 j hj1 (by omega))
    refine hr.trans ?_
    rw [h3]
    exact fin 0

/-! ### The fields -/
def clrN : ACode → ACode
  | .clr _ _ b => b
  | _ => .skip
abbrev rpB : ACode := A10.body
abbrev rpQ : ACode := clrN (match sndN 3 rpB with | .seq _ b => b | _ => .skip)
def zC : List V := [.int .i64 0, .int .i64 0, .int .i64 0, .str [], .str [], .str []]
def rpS (s : List UInt8) (fs : List Bool) (X : List V) (W : List V) (k : Nat) : St := { env := [(0, .str s), (2, .ptr 2 2 0), (5, .ptr 2 5 0), (7, .cptr (fs.map V.bool)), (9, .slc 2 31 0 1 8), (10, .int .i64 k)], mem := [[(2, zC), (5, X), (31, W)], [], []] }

theorem W_at (l : List (List UInt8)) (k : Nat) (hk : k < 8) : ((pad l).map V.str).drop k = .str (wk l k) :: ((pad l).map V.str).drop (k + 1) := by
  have h := pad_len l
  rw [List.drop_eq_getElem_cons (by rw [List.length_map, h]; exact hk)]
  congr 1
  rw [List.getElem_map]
  unfold wk
  rw [List.getD_eq_getElem?_getD, List.getElem?_eq_getElem (by rw [h]; exact hk)]
  rfl

def rpE (s : List UInt8) (X : List V) (W : List V) : St := { env := [(0, .str s), (2, .ptr 2 2 0), (5, .ptr 2 5 0)], mem := [[(2, zC), (5, X), (31, W)], [], []] }
theorem rp4 (s : List UInt8) (f1 f2 f3 f4 f5 : Bool) (l : List (List UInt8)) (o : Int) (k : Nat) (hk : k < 7) :
    cv tab prim (fstN 4 rpQ) (rpS s [f1, f2, f3, f4, f5] [.int .i64 o, .int .i64 0, .int .i64 0, .str [], .str [], .str []] ((pad l).map V.str) k) =
      some (.normal, rpS s [f1, f2, f3, f4, f5] [.int .i64 o, .int .i64 (nIf f1 l k), .int .i64 0, .str [], .str [], .str []] ((pad l).map V.str) (up f1 k)) := by
  have h := W_at l k (by omega)
  have hn := ev_Num (wk l k)
  have hi : idxOk (k : Int) 8 = true := by simp [idxOk]; omega
  have w1 : IntKind.i64.wrap ((k : Int) + 1) = ((k : Int) + 1) := wrap_small (by omega) (by omega)
  have g0 : idxOk 0 5 = true := by decide
  unfold rpS nIf up zC
  generalize (pad l).map V.str = W at *
  cases f1 with
  | false => simp [fstN, sndN, clrN, rpQ, rpB, A10, g0]
  | true =>
    simp only [cond_true]
    generalize (numV (wk l k)).1 = q at *
    simp [fstN, sndN, clrN, rpQ, rpB, A10, g0, h, hn, hi, w1]

theorem rp5 (s : List UInt8) (f1 f2 f3 f4 f5 : Bool) (l : List (List UInt8)) (o a : Int) (k : Nat) (hk : k < 7) :
    cv tab prim (fstN 5 rpQ) (rpS s [f1, f2, f3, f4, f5] [.int .i64 o, .int .i64 a, .int .i64 0, .str [], .str [], .str []] ((pad l).map V.str) k) =
      some (.normal, rpS s [f1, f2, f3, f4, f5] [.int .i64 o, .int .i64 a, .int .i64 (nIf f2 l k), .str [], .str [], .str []] ((pad l).map V.str) (up f2 k)) := by
  have h := W_at l k (by omega)
  have hn := ev_Num (wk l k)
  have hi : idxOk (k : Int) 8 = true := by simp [idxOk]; omega
  have w1 : IntKind.i64.wrap ((k : Int) + 1) = ((k : Int) + 1) := wrap_small (by omega) (by omega)
  have g0 : idxOk 1 5 = true := by decide
  unfold rpS nIf up zC
  generalize (pad l).map V.str = W at *
  cases f2 with
  | false => simp [fstN, sndN, clrN, rpQ, rpB, A10, g0]
  | true =>
    simp only [cond_true]
    generalize (numV (wk l k)).1 = q at *
    simp [fstN, sndN, clrN, rpQ, rpB, A10, g0, h, hn, hi, w1]

theorem rp6 (s : List UInt8) (f1 f2 f3 f4 f5 : Bool) (l : List (List UInt8)) (o a b : Int) (k : Nat) (hk : k < 7) :
    cv tab prim (fstN 6 rpQ) (rpS s [f1, f2, f3, f4, f5] [.int .i64 o, .int .i64 a, .int .i64 b, .str [], .str [], .str []] ((pad l).map V.str) k) =
      some (.normal, rpS s [f1, f2, f3, f4, f5] [.int .i64 o, .int .i64 a, .int .i64 b, .str (tIf f3 l k), .str [], .str []] ((pad l).map V.str) (up f3 k)) := by
  have h := W_at l k (by omega)
  have hi : idxOk (k : Int) 8 = true := by simp [idxOk]; omega
  have w1 : IntKind.i64.wrap ((k : Int) + 1) = ((k : Int) + 1) := wrap_small (by omega) (by omega)
  have g0 : idxOk 2 5 = true := by decide
  unfold rpS tIf up zC
  generalize (pad l).map V.str = W at *
  cases f3 with
  | false => simp [fstN, sndN, clrN, rpQ, rpB, A10, g0]
  | true =>
    simp only [cond_true]
    simp [fstN, sndN, clrN, rpQ, rpB, A10, g0, h, hi, w1]

theorem rp7 (s : List UInt8) (f1 f2 f3 f4 f5 : Bool) (l : List (List UInt8)) (o a b : Int) (c : List UInt8) (k : Nat) (hk : k < 7) :
    cv tab prim (fstN 7 rpQ) (rpS s [f1, f2, f3, f4, f5] [.int .i64 o, .int .i64 a, .int .i64 b, .str c, .str [], .str []] ((pad l).map V.str) k) =
      some (.normal, rpS s [f1, f2, f3, f4, f5] [.int .i64 o, .int .i64 a, .int .i64 b, .str c, .str (tIf f4 l k), .str []] ((pad l).map V.str) (up f4 k)) := by
  have h := W_at l k (by omega)
  have hi : idxOk (k : Int) 8 = true := by simp [idxOk]; omega
  have w1 : IntKind.i64.wrap ((k : Int) + 1) = ((k : Int) + 1) := wrap_small (by omega) (by omega)
  have g0 : idxOk 3 5 = true := by decide
  unfold rpS tIf up zC
  generalize (pad l).map V.str = W at *
  cases f4 with
  | false => simp [fstN, sndN, clrN, rpQ, rpB, A10, g0]
  | true =>
    simp only [cond_true]
    simp [fstN, sndN, clrN, rpQ, rpB, A10, g0, h, hi, w1]

theorem rp8 (s : List UInt8) (f1 f2 f3 f4 f5 : Bool) (l : List (List UInt8)) (o a b : Int) (c n : List UInt8) (k : Nat) (hk : k < 7) :
    cv tab prim (fstN 8 rpQ) (rpS s [f1, f2, f3, f4, f5] [.int .i64 o, .int .i64 a, .int .i64 b, .str c, .str n, .str []] ((pad l).map V.str) k) =
      some (.normal, rpE s [.int .i64 o, .int .i64 a, .int .i64 b, .str c, .str n, .str (tIf f5 l k)] ((pad l).map V.str)) := by
  have h := W_at l k (by omega)
  have hi : idxOk (k : Int) 8 = true := by simp [idxOk]; omega
  have w1 : IntKind.i64.wrap ((k : Int) + 1) = ((k : Int) + 1) := wrap_small (by omega) (by omega)
  have g0 : idxOk 4 5 = true := by decide
  unfold rpS tIf rpE zC
  generalize (pad l).map V.str = W at *
  cases f5 with
  | false => simp [fstN, sndN, clrN, rpQ, rpB, A10, g0]
  | true =>
    simp only [cond_true]
    simp [fstN, sndN, clrN, rpQ, rpB, A10, g0, h, hi, w1]

/-- The end. -/
theorem rpT (s : List UInt8) (x : Ins) (hx : x.Short) (W : List V) :
    cv tab prim (sndN 9 rpQ) (rpE s [.int .i64 x.o, .int .i64 x.a, .int .i64 x.b, .str x.c, .str x.n, .str x.d] W) =
      bif (x.o != 0) && (x.line == s) then some (.ret, { env := [(2, .ptr 2 2 0), (3, .int .i64 0)], mem := [[(2, [.int .i64 x.o, .int .i64 x.a, .int .i64 x.b, .str x.c, .str x.n, .str x.d]), (5, [.int .i64 x.o, .int .i64 x.a, .int .i64 x.b, .str x.c, .str x.n, .str x.d]), (31, W)], [], []] })
      else some (.ret, { env := [(2, .ptr 2 2 0), (3, .int .i64 7)], mem := [[(2, zC), (5, [.int .i64 x.o, .int .i64 x.a, .int .i64 x.b, .str x.c, .str x.n, .str x.d]), (31, W)], [], []] }) := by
  have hLn := ev_refLine x hx
  unfold Ins.v at hLn
  unfold rpE zC
  generalize x.line = ln at *
  have hbne : ∀ a b : List UInt8, (a != b) = !(a == b) := fun _ _ => rfl
  have hbni : ∀ a b : Int, (a != b) = !(a == b) := fun _ _ => rfl
  cases ho : (x.o == 0) with
  | true => simp [sndN, clrN, rpQ, rpB, A10, hbni, ho]
  | false =>
    cases hl : (ln == s) with
    | false => simp [sndN, clrN, rpQ, rpB, A10, hbni, ho, hLn, hbne, hl]
    | true => simp [sndN, clrN, rpQ, rpB, A10, hbni, ho, hLn, hbne, hl]

abbrev rpR : ACode := .seq (fstN 4 rpQ) (.seq (fstN 5 rpQ) (.seq (fstN 6 rpQ) (.seq (fstN 7 rpQ) (.seq (fstN 8 rpQ) (sndN 9 rpQ)))))
theorem rpQ_eq : rpQ = .seq (fstN 0 rpQ) (.seq (fstN 1 rpQ) (.seq (fstN 2 rpQ) (.seq (fstN 3 rpQ) rpR))) := rfl

theorem rpQ0 (s w : List UInt8) (ls : List (List UInt8)) (o : Int) (hl : ls.length ≤ 100000) (rest : ACode) :
    cv tab prim (.seq (fstN 0 rpQ) (.seq (fstN 1 rpQ) (.seq (fstN 2 rpQ) (.seq (fstN 3 rpQ) rest)))) (roEnd s ((w :: ls).map V.str) o) =
      cv tab prim rest (rpS s [rowB o 1, rowB o 2, rowB o 3, rowB o 4, rowB o 5] [.int .i64 o, .int .i64 0, .int .i64 0, .str [], .str [], .str []] ((pad (w :: ls)).map V.str) 0) := by
  have hOf := ev24 o
  rw [shapeOf_eq] at hOf
  have h3 : (1 : Int) ≤ (ls.length : Int) + 1 := by omega
  have h4 : (ls.map V.str).take ls.length = ls.map V.str := List.take_of_length_le (by simp)
  have hfl : ∀ q : List (List UInt8), flat (q.map V.str) = q.map V.str := fun q => by
    induction q with
    | nil => rfl
    | cons x r ih => simp [flat, ih, V.cells]
  have hdc : ∀ x ∈ flat ((ls.map V.str).take 8), dataCell 2 x = true := by
    intro x hx
    rw [← List.map_take, hfl] at hx
    obtain ⟨y, _, rfl⟩ := List.mem_map.1 hx
    rfl
  have hW : flat ((ls.map V.str).take 8) ++ List.drop (flat ((ls.map V.str).take 8)).length [V.str [], V.str [], V.str [], V.str [], V.str [], V.str [], V.str [], V.str []] = (pad (w :: ls)).map V.str := by
    rw [← List.map_take, hfl, List.length_map]
    unfold pad
    rw [List.map_append]
    congr 1
    rw [List.map_replicate, show [V.str [], V.str [], V.str [], V.str [], V.str [], V.str [], V.str [], V.str []] = List.replicate 8 (V.str []) from rfl, List.drop_replicate]
    rfl
  unfold roEnd rpS zC
  simp [fstN, sndN, clrN, rpQ, rpB, A10, hOf, h3, h4, -dataCell, (show ∀ q, dataCell 2 (.str q) = true from fun _ => rfl)]
  rw [if_pos hdc, hW]
  simp

theorem numV_range (w : List UInt8) : -9223372036854775808 ≤ (numV w).1 ∧ (numV w).1 ≤ 9223372036854775807 := by
  unfold numV
  cases h : numOk w with
  | false => exact ⟨by show (-9223372036854775808 : Int) ≤ 0; decide, by show (0 : Int) ≤ 9223372036854775807; decide⟩
  | true =>
    show _ ≤ numN w ∧ numN w ≤ _
    unfold numOk int32 at h
    simp only [Bool.and_eq_true, decide_eq_true_eq] at h
    omega
theorem wk_len (s : List UInt8) (hs : s.length ≤ 2000) (k : Nat) : (wk (cutV s) k).length ≤ 2000 := by
  unfold wk
  rw [List.getD_eq_getElem?_getD]
  cases h : (pad (cutV s))[k]? with
  | none => simp
  | some w =>
    have := List.mem_of_getElem? h
    unfold pad at this
    rcases List.mem_append.1 this with h1 | h1
    · exact Nat.le_trans (cutV_len s w (List.mem_of_mem_drop (List.mem_of_mem_take h1))) hs
    · rw [List.eq_of_mem_replicate h1]; simp
theorem candR_short (s : List UInt8) (hs : s.length ≤ 2000) : (candR s).Short := by
  have n1 : ∀ f l k, -9223372036854775808 ≤ nIf f l k ∧ nIf f l k ≤ 9223372036854775807 := fun f l k => by
    cases f
    · exact ⟨by show (-9223372036854775808 : Int) ≤ 0; decide, by show (0 : Int) ≤ 9223372036854775807; decide⟩
    · exact numV_range _
  have t1 : ∀ f k, (tIf f (cutV s) k).length ≤ 2000 := fun f k => by
    cases f
    · simp [tIf]
    · exact wk_len s hs k
  exact ⟨n1 _ _ _, n1 _ _ _, t1 _ _, t1 _ _, t1 _ _⟩

theorem up_le (f : Bool) (k : Nat) : up f k ≤ k + 1 := by cases f <;> simp [up]

theorem ev_refParseLine (s : List UInt8) (hs : s.length ≤ 2000) : ev tab prim 10 [.str s] [[], []] = some (.tup [(refP s).1.v, .int .i64 (refP s).2], [[], []]) := by
  have hCut := ev_Cut s (by omega)
  have hsh := candR_short s hs
  have hT := rpT s (candR s) hsh ((pad (cutV s)).map V.str)
  have hne := cutV_ne s
  have hlen : (cutV s).length ≤ s.length + 1 := by
    have : ∀ t : List UInt8, (cutV t).length ≤ t.length + 1 := fun t => by
      induction t with
      | nil => simp [cutV]
      | cons b r ih =>
        unfold cutV
        split
        · simp; omega
        · cases hc : cutV r with
          | nil => simp
          | cons w ws => rw [hc] at ih; simp at ih ⊢; omega
    exact this s
  -- ahead of the fields
  have hb : rpB = .seq (fstN 0 rpB) (.seq (fstN 1 rpB) (.seq (fstN 2 rpB) (.seq (fstN 3 rpB) (.clr [6, 13, 14, 15, 16, 17, 18, 19, 20, 21, 22, 23, 24] [] rpQ)))) := rfl
  obtain ⟨w, ls, hc⟩ : ∃ w ls, cutV s = w :: ls := by
    cases h : cutV s with
    | nil => exact absurd h hne
    | cons w ls => exact ⟨w, ls, rfl⟩
  have hop := refOp s w (ls.map V.str)
  have h0 : cv tab prim rpB { env := [(0, .str s)], mem := [[], [], []] } = cv tab prim rpQ (roEnd s ((w :: ls).map V.str) (opOfV w)) := by
    conv => lhs; rw [hb]
    generalize hq : rpQ = q at *
    rw [hc] at hCut
    unfold roSt roEnd at hop
    unfold roEnd
    simp at hop hCut
    simp [fstN, rpB, A10, hCut, hop]
  have h1 : cv tab prim rpQ (roEnd s ((w :: ls).map V.str) (opOfV w)) = cv tab prim (sndN 9 rpQ) (rpE s [.int .i64 (candR s).o, .int .i64 (candR s).a, .int .i64 (candR s).b, .str (candR s).c, .str (candR s).n, .str (candR s).d] ((pad (cutV s)).map V.str)) := by
    have hq := rpQ0 s w ls (opOfV w) (by rw [hc] at hlen; simp at hlen; omega) rpR
    conv => lhs; rw [rpQ_eq, hq]
    clear hq hT hsh h0 hop hb hCut
    unfold candR
    rw [hc]
    dsimp only [List.headD_cons]
    generalize opOfV w = o at *
    have k1 := up_le (rowB o 1) 0
    have k2 := up_le (rowB o 2) (up (rowB o 1) 0)
    have k3 := up_le (rowB o 3) (up (rowB o 2) (up (rowB o 1) 0))
    have k4 := up_le (rowB o 4) (up (rowB o 3) (up (rowB o 2) (up (rowB o 1) 0)))
    rw [cv_seq', rp4 _ _ _ _ _ _ _ _ _ (by omega), seqK_n, cv_seq', rp5 _ _ _ _ _ _ _ _ _ _ (by omega), seqK_n, cv_seq', rp6 _ _ _ _ _ _ _ _ _ _ _ (by omega), seqK_n, cv_seq', rp7 _ _ _ _ _ _ _ _ _ _ _ _ (by omega), seqK_n, cv_seq', rp8 _ _ _ _ _ _ _ _ _ _ _ _ _ (by omega), seqK_n]
  have hrun := h0.trans (h1.trans hT)
  clear h0 h1 hT hop hb hCut
  rw [ev_fn' tab prim (f := 10) rfl _ _ rfl]
  unfold refP
  generalize (pad (cutV s)).map V.str = W at *
  generalize candR s = x at *
  generalize ((x.o != 0) && (x.line == s)) = ok at *
  unfold Ins.v zI
  cases ok with
  | true =>
    simp only [cond_true] at hrun ⊢
    show finK [.b 2 (some 6), .a (.t 3)] (cv tab prim rpB { env := [(0, .str s)], mem := [[], [], []] }) = _
    rw [hrun]
    simp
  | false =>
    simp only [cond_false] at hrun ⊢
    show finK [.b 2 (some 6), .a (.t 3)] (cv tab prim rpB { env := [(0, .str s)], mem := [[], [], []] }) = _
    rw [hrun]
    simp [zC]

end Go.Proofs.YtgmlanhhjmhmmaaDoor.Ev
