/- An instruction as a line: asm.Line and the reference's Line. -/
import Derived.Test.YtgmlanhhjmhmmaaDoorYb
import Derived.Test.YtgmlanhhjmhmmaaDoorFd
namespace Go.Proofs.YtgmlanhhjmhmmaaDoor.Ev
open Go

def int32 (n : Int) : Bool := decide (-2147483648 ≤ n) && decide (n ≤ 2147483647)
def plainT (s : List UInt8) : Bool := !s.isEmpty && !s.any isSep
def numW (b : Bool) (n : Int) : List (List UInt8) := bif b then [Lib.itoa n] else []
def textW (b : Bool) (s : List UInt8) : List (List UInt8) := bif b then [s] else []
def Ins.nums (x : Ins) : List (List UInt8) := numW (rowB x.o 1) x.a ++ numW (rowB x.o 2) x.b
def Ins.texts (x : Ins) : List (List UInt8) := textW (rowB x.o 3) x.c ++ textW (rowB x.o 4) x.n ++ textW (rowB x.o 5) x.d
def Ins.words (x : Ins) : List (List UInt8) := wordOf x.o :: (x.nums ++ x.texts)
def Ins.numsOk (x : Ins) : Bool := (!rowB x.o 1 || int32 x.a) && (!rowB x.o 2 || int32 x.b)
def Ins.textsOk (x : Ins) : Bool := (!rowB x.o 3 || plainT x.c) && (!rowB x.o 4 || plainT x.n) && (!rowB x.o 5 || plainT x.d)
def Ins.lineOk (x : Ins) : Bool := inR x.o && x.numsOk && x.textsOk
def Ins.line (x : Ins) : List UInt8 := bif x.lineOk then Lib.join x.words [32] else []

/-- An instruction that a machine can hold, and whose texts are short. -/
structure Ins.Short (x : Ins) : Prop where
  a : -9223372036854775808 ≤ x.a ∧ x.a ≤ 9223372036854775807
  b : -9223372036854775808 ≤ x.b ∧ x.b ≤ 9223372036854775807
  c : x.c.length ≤ 2000
  n : x.n.length ≤ 2000
  d : x.d.length ≤ 2000

theorem ev_Itoa (n : Int) (h : -9223372036854775808 ≤ n ∧ n ≤ 9223372036854775807) (m : Mem) : ev tab prim 27 [.int .i64 n] m = some (.str (Lib.itoa n), m) := by
  rw [ev_prim tab prim rfl]
  simp [prim, h]

def l11 (C S : V) (ok : Bool) (ws : List (List UInt8)) (r : Env) : St := { env := (1, C) :: (3, S) :: (4, .bool ok) :: (5, .list 1 (ws.map V.str) true) :: r, mem := [[], [], []] }

theorem line0_step (C S : V) (es : List V) (i : Nat) (hi : i < 2) (F ok : Bool) (n : Int) (hn : -9223372036854775808 ≤ n ∧ n ≤ 9223372036854775807) (ws : List (List UInt8)) (hw : ws.length ≤ 10) (he : es[i]? = some (.agg [.bool F, .int .i64 n])) (hl : es.length = 2) :
    cv tab prim L11_0 (l11 C S ok ws [(30, .list 2 es true), (31, .int .i64 2), (32, .int .i64 i)]) =
      some (.normal, l11 C S (ok && (!F || int32 n)) (ws ++ numW F n) [(30, .list 2 es true), (31, .int .i64 2), (32, .int .i64 ((i + 1 : Nat) : Int))]) := by
  have i1 := ev_Itoa n hn [[], []]
  have w1 : IntKind.i64.wrap ((i : Int) + 1) = ((i + 1 : Nat) : Int) := by rw [wrap_small] <;> omega
  have b1 : ((ws.length : Nat) + 1) * 16 ≤ 140737488355328 := by omega
  have b2 : (ws.length : Nat) + 1 ≤ 140737488355328 := by omega
  have b3 : (i : Int) < 2 := by omega
  have b4 : idxOk (i : Int) 2 = true := by simp [idxOk]; omega
  unfold l11
  cases F with
  | false => simp [L11_0, b3, b4, he, hl, w1, numW]
  | true =>
    by_cases h1 : -2147483648 ≤ n <;> by_cases h2 : n ≤ 2147483647 <;> cases ok <;> simp [L11_0, b3, b4, he, hl, w1, i1, b1, b2, h1, h2, numW, int32]

theorem line0 (C S : V) (A B ok : Bool) (a b : Int) (ha : -9223372036854775808 ≤ a ∧ a ≤ 9223372036854775807) (hb : -9223372036854775808 ≤ b ∧ b ≤ 9223372036854775807) (ws : List (List UInt8)) (hw : ws.length ≤ 5) :
    cv tab prim (.loop L11_0) (l11 C S ok ws [(30, .list 2 [.agg [.bool A, .int .i64 a], .agg [.bool B, .int .i64 b]] true), (31, .int .i64 2), (32, .int .i64 0)]) =
      some (.exit 0, l11 C S (ok && (!A || int32 a) && (!B || int32 b)) (ws ++ numW A a ++ numW B b) []) := by
  have hwA : (ws ++ numW A a).length ≤ 10 := by cases A <;> simp [numW] <;> omega
  have s0 := line0_step C S [.agg [.bool A, .int .i64 a], .agg [.bool B, .int .i64 b]] 0 (by omega) A ok a ha ws (by omega) rfl rfl
  have s1 := line0_step C S [.agg [.bool A, .int .i64 a], .agg [.bool B, .int .i64 b]] 1 (by omega) B (ok && (!A || int32 a)) b hb (ws ++ numW A a) hwA rfl rfl
  refine loop_all (fun i => match i with
    | 0 => l11 C S ok ws [(30, .list 2 [.agg [.bool A, .int .i64 a], .agg [.bool B, .int .i64 b]] true), (31, .int .i64 2), (32, .int .i64 0)]
    | 1 => l11 C S (ok && (!A || int32 a)) (ws ++ numW A a) [(30, .list 2 [.agg [.bool A, .int .i64 a], .agg [.bool B, .int .i64 b]] true), (31, .int .i64 2), (32, .int .i64 1)]
    | _ => l11 C S (ok && (!A || int32 a) && (!B || int32 b)) (ws ++ numW A a ++ numW B b) [(30, .list 2 [.agg [.bool A, .int .i64 a], .agg [.bool B, .int .i64 b]] true), (31, .int .i64 2), (32, .int .i64 2)]) 2 _ (fun k hk => ?_) ?_ (by simp)
  · rcases (by omega : k = 0 ∨ k = 1) with rfl | rfl
    · exact s0
    · exact s1
  · simp [l11, L11_0]

theorem line1_step (es : List V) (i : Nat) (hi : i < 3) (F ok : Bool) (n : List UInt8) (hn : n.length ≤ 2000) (ws : List (List UInt8)) (hw : ws.length ≤ 10) (he : es[i]? = some (.agg [.bool F, .str n])) (hl : es.length = 3) :
    cv tab prim L11_1 { env := [(4, .bool ok), (5, .list 1 (ws.map V.str) true), (71, .list 2 es true), (72, .int .i64 3), (73, .int .i64 i)], mem := [[], [], []] } =
      some (.normal, { env := [(4, .bool (ok && (!F || plainT n))), (5, .list 1 ((ws ++ textW F n).map V.str) true), (71, .list 2 es true), (72, .int .i64 3), (73, .int .i64 ((i + 1 : Nat) : Int))], mem := [[], [], []] }) := by
  have i1 := ev_ContainsAny n (by omega)
  have w1 : IntKind.i64.wrap ((i : Int) + 1) = ((i + 1 : Nat) : Int) := by rw [wrap_small] <;> omega
  have b1 : ((ws.length : Nat) + 1) * 16 ≤ 140737488355328 := by omega
  have b2 : (ws.length : Nat) + 1 ≤ 140737488355328 := by omega
  have b3 : (i : Int) < 3 := by omega
  have b4 : idxOk (i : Int) 3 = true := by simp [idxOk]; omega
  unfold plainT
  cases F with
  | false => simp [L11_1, b3, b4, he, hl, w1, textW]
  | true =>
    generalize n.any isSep = q at *
    generalize hz : n.isEmpty = z at *
    cases z <;> cases ok <;> simp [L11_1, b3, b4, he, hl, w1, i1, b1, b2, hz, textW]

def l1s (A B D ok : Bool) (a b d : List UInt8) (ws : List (List UInt8)) (i : Nat) : St := { env := [(4, .bool ok), (5, .list 1 (ws.map V.str) true), (71, .list 2 [.agg [.bool A, .str a], .agg [.bool B, .str b], .agg [.bool D, .str d]] true), (72, .int .i64 3), (73, .int .i64 i)], mem := [[], [], []] }
theorem line1 (A B D ok : Bool) (a b d : List UInt8) (ha : a.length ≤ 2000) (hb : b.length ≤ 2000) (hd : d.length ≤ 2000) (ws : List (List UInt8)) (hw : ws.length ≤ 5) :
    cv tab prim (.loop L11_1) (l1s A B D ok a b d ws 0) =
      some (.exit 2, { env := [(4, .bool (ok && (!A || plainT a) && (!B || plainT b) && (!D || plainT d))), (5, .list 1 ((ws ++ textW A a ++ textW B b ++ textW D d).map V.str) true)], mem := [[], [], []] }) := by
  have hwA : (ws ++ textW A a).length ≤ 6 := by cases A <;> simp [textW] <;> omega
  have hwB : (ws ++ textW A a ++ textW B b).length ≤ 7 := by
    have : (textW B b).length ≤ 1 := by cases B <;> simp [textW]
    rw [List.length_append]; omega
  have s0 := line1_step [.agg [.bool A, .str a], .agg [.bool B, .str b], .agg [.bool D, .str d]] 0 (by omega) A ok a ha ws (by omega) rfl rfl
  have s1 := line1_step [.agg [.bool A, .str a], .agg [.bool B, .str b], .agg [.bool D, .str d]] 1 (by omega) B (ok && (!A || plainT a)) b hb (ws ++ textW A a) (by omega) rfl rfl
  have s2 := line1_step [.agg [.bool A, .str a], .agg [.bool B, .str b], .agg [.bool D, .str d]] 2 (by omega) D (ok && (!A || plainT a) && (!B || plainT b)) d hd (ws ++ textW A a ++ textW B b) (by omega) rfl rfl
  refine loop_all (fun i => match i with
    | 0 => l1s A B D ok a b d ws 0
    | 1 => l1s A B D (ok && (!A || plainT a)) a b d (ws ++ textW A a) 1
    | 2 => l1s A B D (ok && (!A || plainT a) && (!B || plainT b)) a b d (ws ++ textW A a ++ textW B b) 2
    | _ => l1s A B D (ok && (!A || plainT a) && (!B || plainT b) && (!D || plainT d)) a b d (ws ++ textW A a ++ textW B b ++ textW D d) 3) 3 _ (fun k hk => ?_) ?_ (by simp)
  · rcases (by omega : k = 0 ∨ k = 1 ∨ k = 2) with rfl | rfl | rfl
    · exact s0
    · exact s1
    · exact s2
  · simp [l1s, L11_1]

theorem join_len (l : List (List UInt8)) (h : ∀ w ∈ l, w.length ≤ 2000) (hl : l.length ≤ 10) : (Lib.join l [32]).length ≤ 100000 := by
  have key : ∀ l : List (List UInt8), (∀ w ∈ l, w.length ≤ 2000) → (Lib.joinTail [32] l).length ≤ l.length * 2001 := by
    intro l
    induction l with
    | nil => intro _; simp [Lib.joinTail]
    | cons w r ih =>
      intro h
      have h1 := ih fun x hx => h x (by simp [hx])
      have h2 := h w (by simp)
      simp only [Lib.joinTail, List.map_cons, List.flatten_cons, List.length_append, List.length_cons, List.length_nil] at h1 ⊢
      omega
  cases l with
  | nil => simp [Lib.join_nil]
  | cons w r =>
    have h1 := key r fun x hx => h x (by simp [hx])
    have h2 := h w (by simp)
    rw [Lib.join_cons, List.length_append]
    simp only [List.length_cons] at hl
    omega

theorem itoa_len (n : Int) (h : -9223372036854775808 ≤ n ∧ n ≤ 9223372036854775807) : (Lib.itoa n).length ≤ 2000 := by
  have nd : ∀ k u : Nat, u < 10 ^ (k + 1) → Lib.nDigits u ≤ k + 1 := by
    intro k
    induction k with
    | zero => intro u hu; rw [Lib.nDigits_small (by simpa using hu)]; exact Nat.le_refl _
    | succ k ih =>
      intro u hu
      by_cases h : u < 10
      · rw [Lib.nDigits_small h]; omega
      · rw [Lib.nDigits_big h]
        have := ih (u / 10) (by rw [Nat.pow_succ] at hu; omega)
        omega
  have key : ∀ u : Nat, u < 10 ^ 20 → Lib.nDigits u ≤ 20 := fun u hu => nd 19 u hu
  unfold Lib.itoa
  split
  · rw [List.length_cons, Lib.decDigits_length]
    have := key n.natAbs (by omega)
    omega
  · rw [Lib.decDigits_length]
    have := key n.toNat (by omega)
    omega

theorem word_len (a : Int) : (wordOf a).length ≤ 2000 := by
  cases h : inR a with
  | true =>
    obtain ⟨n, rfl, hn⟩ := inR_nat h
    have : (List.range 39).map (fun n : Nat => decide ((wordOf (n : Int)).length ≤ 2000)) = (List.range 39).map fun _ : Nat => true := by kernel_rfl
    exact of_decide_eq_true (of_map this hn)
  | false => simp [wordOf, rowOf_out h, zRow]

theorem ev_Line (x : Ins) (hx : x.Short) : ev tab prim 11 [x.v] [[], []] = some (.str x.line, [[], []]) := by
  have h1 := ev19 x.o
  have h2 := ev26 x.o
  rw [shapeOf_eq] at h1
  have hl0 := line0 (.cptr [.int .i64 x.o, .int .i64 x.a, .int .i64 x.b, .str x.c, .str x.n, .str x.d]) (.cptr [.bool (rowB x.o 1), .bool (rowB x.o 2), .bool (rowB x.o 3), .bool (rowB x.o 4), .bool (rowB x.o 5)]) (rowB x.o 1) (rowB x.o 2) (inR x.o) x.a x.b hx.a hx.b [wordOf x.o] (by simp)
  have hwl : ([wordOf x.o] ++ numW (rowB x.o 1) x.a ++ numW (rowB x.o 2) x.b).length ≤ 5 := by
    cases rowB x.o 1 <;> cases rowB x.o 2 <;> simp [numW]
  have hl1 := line1 (rowB x.o 3) (rowB x.o 4) (rowB x.o 5) (inR x.o && (!rowB x.o 1 || int32 x.a) && (!rowB x.o 2 || int32 x.b)) x.c x.n x.d hx.c hx.n hx.d ([wordOf x.o] ++ numW (rowB x.o 1) x.a ++ numW (rowB x.o 2) x.b) hwl
  have hok : (inR x.o && (!rowB x.o 1 || int32 x.a) && (!rowB x.o 2 || int32 x.b) && (!rowB x.o 3 || plainT x.c) && (!rowB x.o 4 || plainT x.n) && (!rowB x.o 5 || plainT x.d)) = x.lineOk := by
    simp only [Ins.lineOk, Ins.numsOk, Ins.textsOk, Bool.and_assoc]
  have hws : [wordOf x.o] ++ numW (rowB x.o 1) x.a ++ numW (rowB x.o 2) x.b ++ textW (rowB x.o 3) x.c ++ textW (rowB x.o 4) x.n ++ textW (rowB x.o 5) x.d = x.words := by
    simp [Ins.words, Ins.nums, Ins.texts]
  rw [hok, hws] at hl1
  have hwords : ∀ w ∈ x.words, w.length ≤ 2000 := by
    intro w hw
    simp only [Ins.words, Ins.nums, Ins.texts, List.mem_cons, List.mem_append, numW, textW] at hw
    have i1 := itoa_len x.a hx.a
    have i2 := itoa_len x.b hx.b
    have i3 := word_len x.o
    have i4 := hx.c
    have i5 := hx.n
    have i6 := hx.d
    rcases hw with rfl | (h | h) | (h | h) | h
    · exact i3
    all_goals
      first
        | (cases hb : rowB x.o 1 <;> rw [hb] at h <;> simp at h <;> subst h <;> assumption)
        | (cases hb : rowB x.o 2 <;> rw [hb] at h <;> simp at h <;> subst h <;> assumption)
        | (cases hb : rowB x.o 3 <;> rw [hb] at h <;> simp at h <;> subst h <;> assumption)
        | (cases hb : rowB x.o 4 <;> rw [hb] at h <;> simp at h <;> subst h <;> assumption)
        | (cases hb : rowB x.o 5 <;> rw [hb] at h <;> simp at h <;> subst h <;> assumption)
  have hwc : x.words.length ≤ 10 := by
    simp only [Ins.words, Ins.nums, Ins.texts, List.length_cons, List.length_append]
    have : ∀ b n, (numW b n).length ≤ 1 := fun b n => by cases b <;> simp [numW]
    have : ∀ b n, (textW b n).length ≤ 1 := fun b n => by cases b <;> simp [textW]
    have q1 := ‹∀ b n, (numW b n).length ≤ 1› (rowB x.o 1) x.a
    have q2 := ‹∀ b n, (numW b n).length ≤ 1› (rowB x.o 2) x.b
    have q3 := this (rowB x.o 3) x.c
    have q4 := this (rowB x.o 4) x.n
    have q5 := this (rowB x.o 5) x.d
    omega
  have hj : ev tab prim 29 [.list 1 (x.words.map V.str) false, .str [32]] [[], []] = some (.str (Lib.join x.words [32]), [[], []]) := by
    rw [ev_prim tab prim rfl]
    have := join_len x.words hwords hwc
    have e1 : x.words.length ≤ 140737488355328 := by omega
    have e2 : (Lib.join x.words [32]).length ≤ 140737488355328 := by omega
    simp [prim, texts_map, e1, e2]
  clear hwords hwc hok hws hwl
  unfold Ins.line
  unfold l11 at hl0
  unfold l1s at hl1
  generalize hlo : x.lineOk = lo at *
  generalize x.words = ws at *
  unfold Ins.v
  generalize wordOf x.o = wd at *
  generalize numW (rowB x.o 1) x.a = na at *
  generalize numW (rowB x.o 2) x.b = nb at *
  generalize rowB x.o 1 = b1 at *
  generalize rowB x.o 2 = b2 at *
  generalize rowB x.o 3 = b3 at *
  generalize rowB x.o 4 = b4 at *
  generalize rowB x.o 5 = b5 at *
  generalize int32 x.a = ia at *
  generalize int32 x.b = ib at *
  rw [ev_fn' tab prim (f := 11) rfl _ _ rfl]
  simp at hl0 hl1
  cases lo <;> simp [h1, h2, hl0, hl1, hj]

end Go.Proofs.YtgmlanhhjmhmmaaDoor.Ev
