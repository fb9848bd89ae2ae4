/- What Decode answers: of a class's bytes, of the first of them, of any. -/
import Derived.Test.YtgmlanhhjmhmmaaGreatRk
import Derived.Test.YtgmlanhhjmhmmaaGreatGw
import Derived.Test.YtgmlanhhjmhmmaaGreatRk
namespace Go.Proofs.YtgmlanhhjmhmmaaGreat.Ev
open Go

/-! What is read of bytes that were written, all of them or the first of them: in plain Lean. -/
/-- Nothing was met; so far it is read. -/
structure At (S : RS) (b : List UInt8) (p : Nat) (l : List Tx) : Prop where
  (b : S.b = b) (at_ : S.at_ = p) (fl : S.fl = false) (e : S.e = 0) (pool : S.pool = l)
/-- The bytes ended too early. -/
def DS (T : RS) : Prop := (T.fl = true ∧ T.e = 0) ∨ T.e = 2
def DSp {α : Type} (f : RS → α × RS) : Prop := ∀ T, DS T → DS (f T).2
/-- What f reads of x: v; or, if x is not all there, that the bytes end. -/
def Rd {α : Type} (l : List Tx) (f : RS → α × RS) (v : α) (x : List UInt8) : Prop :=
  ∀ (d b : List UInt8) (p : Nat) (S : RS), b <+: d → x <+: d.drop p → p ≤ b.length → At S b p l → if p + x.length ≤ b.length then (f S).1 = v ∧ At (f S).2 b (p + x.length) l else DS (f S).2

theorem DS.met {T : RS} (h : DS T) : T.met.e = 2 := by
  unfold RS.met
  rcases h with ⟨h1, h2⟩ | h
  · rw [if_pos ⟨h1, h2⟩]
  · rw [if_neg (fun hc => by have := hc.2; rw [h] at this; cases this), h]
theorem DS.fails {T : RS} (h : DS T) (e : Int) : DS (T.fails e) := by
  have := h.met
  unfold RS.fails
  rw [if_neg (by rw [this]; decide)]
  exact .inr this
theorem DS.okS {T : RS} (h : DS T) : T.okS.1 = false ∧ DS T.okS.2 := by
  have h2 := h.fails 0
  have hm := h.met
  refine ⟨?_, h2⟩
  unfold RS.okS RS.fails
  dsimp only
  rw [if_neg (by rw [hm]; decide), hm]
  rfl
theorem At.okS {S : RS} {b : List UInt8} {p : Nat} {l : List Tx} (h : At S b p l) : S.okS.1 = true ∧ At S.okS.2 b p l := by
  have hm : S.met = S := by unfold RS.met; rw [if_neg (fun hc => by have := hc.1; rw [h.fl] at this; cases this)]
  unfold RS.okS RS.fails
  rw [hm, if_pos h.e]
  exact ⟨rfl, h.b, h.at_, h.fl, rfl, h.pool⟩

theorem DS.take {T : RS} (h : DS T) (n f : Nat) : DS (T.take n f).2 := by
  unfold RS.take
  cases hf : T.fl
  · simp only [Bool.false_eq_true, if_false]
    rcases h with ⟨h1, _⟩ | h
    · rw [hf] at h1; cases h1
    · split
      · exact .inr h
      · exact .inr h
  · simp only [if_true]; exact h
theorem At.take {S : RS} {b : List UInt8} {p : Nat} {l : List Tx} (h : At S b p l) (n f : Nat) :
    if p + n ≤ b.length then (S.take n f).1.1 = (b.take (p + n)).drop p ∧ At (S.take n f).2 b (p + n) l else DS (S.take n f).2 := by
  unfold RS.take
  rw [h.fl, h.at_, h.b]
  simp only [Bool.false_eq_true, if_false]
  by_cases hl : p + n ≤ b.length
  · rw [if_pos hl, if_neg (by omega)]
    exact ⟨rfl, rfl, rfl, rfl, h.e, h.pool⟩
  · rw [if_neg hl, if_pos (by omega)]
    exact .inl ⟨rfl, h.e⟩

theorem slice_eq {d b x : List UInt8} {p : Nat} (hb : b <+: d) (hx : x <+: d.drop p) (hl : p + x.length ≤ b.length) : (b.take (p + x.length)).drop p = x := by
  obtain ⟨w, rfl⟩ := hb
  obtain ⟨r, hr⟩ := hx
  have e : b.take (p + x.length) = (b ++ w).take (p + x.length) := by rw [List.take_append_of_le_length hl]
  rw [e, List.drop_take, ← hr, Nat.add_sub_cancel_left, List.take_left']
  rfl

theorem pre_left {x y z : List UInt8} (h : x ++ y <+: z) : x <+: z := (List.prefix_append x y).trans h
theorem pre_right {x y d : List UInt8} {p : Nat} (h : x ++ y <+: d.drop p) : y <+: d.drop (p + x.length) := by
  obtain ⟨r, hr⟩ := h
  refine ⟨r, ?_⟩
  rw [← List.drop_drop, ← hr, List.append_assoc, List.drop_left']
  rfl

theorem rd_num (l : List Tx) (n : Nat) (x : List UInt8) (hx : x.length = n) : Rd l (fun S => S.num n) (numF x) x := by
  intro d b p S hb hp hpl hA
  subst hx
  have ht := hA.take x.length S.at_
  by_cases hl : p + x.length ≤ b.length
  · rw [if_pos hl] at ht ⊢
    refine ⟨?_, ht.2⟩
    show numF _ = _
    rw [ht.1, slice_eq hb hp hl]
  · rw [if_neg hl] at ht ⊢
    exact ht
theorem dsp_num (n : Nat) : DSp fun S => S.num n := fun _ h => h.take n _

def seqR {α β : Type} (f : RS → α × RS) (g : α → RS → β × RS) : RS → β × RS := fun S => g (f S).1 (f S).2
def retR {α : Type} (v : α) : RS → α × RS := fun S => (v, S)
theorem rd_ret {α : Type} (l : List Tx) (v : α) : Rd l (retR v) v [] := by
  intro d b p S hb hp hpl hA
  rw [List.length_nil, Nat.add_zero, if_pos hpl]
  exact ⟨rfl, hA⟩
theorem rd_seq {α β : Type} {l : List Tx} {f : RS → α × RS} {g : α → RS → β × RS} {v : α} {u : β} {x y : List UInt8} (hf : Rd l f v x) (hg : Rd l (g v) u y) (hd : ∀ v, DSp (g v)) : Rd l (seqR f g) u (x ++ y) := by
  intro d b p S hb hp hpl hA
  have h1 := hf d b p S hb (pre_left hp) hpl hA
  rw [List.length_append]
  by_cases hx : p + x.length ≤ b.length
  · rw [if_pos hx] at h1
    have h2 := hg d b (p + x.length) (f S).2 hb (pre_right hp) hx h1.2
    unfold seqR
    rw [h1.1, ← Nat.add_assoc]
    exact h2
  · rw [if_neg hx] at h1
    rw [if_neg (by omega)]
    exact hd _ _ h1
theorem dsp_ret {α : Type} (v : α) : DSp (retR v) := fun _ h => h
theorem dsp_seq {α β : Type} {f : RS → α × RS} {g : α → RS → β × RS} (hf : DSp f) (hg : ∀ v, DSp (g v)) : DSp (seqR f g) := fun T h => hg _ _ (hf T h)
theorem rd_map {α : Type} {l : List Tx} {f : RS → α × RS} {v w : α} {x : List UInt8} (h : Rd l f v x) (e : v = w) : Rd l f w x := e ▸ h

/-! Numbers. -/
theorem numF_be1 (z : Int) (h1 : 0 ≤ z) (h2 : z ≤ 255) : numF (beN z 1) = z.toNat := by
  rw [beN_one]
  have := byteOf_nat z
  simp only [numF, List.foldl_cons, List.foldl_nil]
  omega
theorem numF_be2 (z : Int) (h1 : 0 ≤ z) (h2 : z ≤ 65535) : numF (beN z 2) = z.toNat := by
  have e1 : z.fdiv (2 ^ (8 * 1)) = z / 256 := by rw [Int.fdiv_eq_ediv_of_nonneg _ (by omega)]; rfl
  have e0 : z.fdiv (2 ^ (8 * 0)) = z := by simp
  have a := byteOf_nat (z / 256)
  have b := byteOf_nat z
  simp only [beN, e1, e0, numF, List.foldl_cons, List.foldl_nil]
  omega
theorem numF_be4 (z : Int) (h1 : -2147483648 ≤ z) (h2 : z ≤ 2147483647) : IntKind.i32.wrap (numF (beN z 4) : Int) = z := by
  have e3 : z.fdiv (2 ^ (8 * 3)) = z / 16777216 := by rw [Int.fdiv_eq_ediv_of_nonneg _ (by omega)]; rfl
  have e2 : z.fdiv (2 ^ (8 * 2)) = z / 65536 := by rw [Int.fdiv_eq_ediv_of_nonneg _ (by omega)]; rfl
  have e1 : z.fdiv (2 ^ (8 * 1)) = z / 256 := by rw [Int.fdiv_eq_ediv_of_nonneg _ (by omega)]; rfl
  have e0 : z.fdiv (2 ^ (8 * 0)) = z := by simp
  have a3 := byteOf_nat (z / 16777216)
  have a2 := byteOf_nat (z / 65536)
  have a1 := byteOf_nat (z / 256)
  have a0 := byteOf_nat z
  have e : ∀ q : Int, IntKind.i32.wrap q = if q % 4294967296 ≥ 2147483648 then q % 4294967296 - 4294967296 else q % 4294967296 := by
    intro q
    show (if (true && decide (q % (2 ^ 32) ≥ (2 ^ (32 - 1) : Int))) = true then _ else _) = _
    simp only [Bool.true_and, decide_eq_true_eq]
    rfl
  simp only [beN, e3, e2, e1, e0, numF, List.foldl_cons, List.foldl_nil]
  rw [e]
  split <;> omega

theorem rd_i4 (l : List Tx) (z : Int) (h1 : -2147483648 ≤ z) (h2 : z ≤ 2147483647) : Rd l RS.i4 z (beN z 4) := by
  intro d b p S hb hp hpl hA
  have h := rd_num l 4 (beN z 4) (beN_len z 4) d b p S hb hp hpl hA
  split
  · rename_i hc
    rw [if_pos hc] at h
    refine ⟨?_, h.2⟩
    show IntKind.i32.wrap ((S.num 4).1 : Int) = z
    rw [h.1]
    exact numF_be4 z h1 h2
  · rename_i hc
    rw [if_neg hc] at h
    exact h
theorem dsp_i4 : DSp RS.i4 := fun _ h => h.take 4 _

/-! Texts, and how many. -/
theorem posOf_get : ∀ (l : List Tx) (k p : Nat) (s : Tx), posOf k l s = some p → l.getD (p - k) [] = s ∧ k ≤ p
  | [], _, _, _, h => by cases h
  | x :: r, k, p, s, h => by
    rw [posOf] at h
    cases hq : s == x
    · rw [hq, cond_false] at h
      obtain ⟨h1, h2⟩ := posOf_get r (k + 1) p s h
      refine ⟨?_, by omega⟩
      rw [show p - k = (p - (k + 1)) + 1 by omega]
      exact h1
    · rw [hq, cond_true, Option.some.injEq] at h
      subst h
      rw [Nat.sub_self]
      exact ⟨(by simpa using hq : s = x).symm, Nat.le_refl _⟩

theorem rd_text {l : List Tx} (hl : l.length ≤ 65536) (s : Tx) (hs : s ∈ l) : Rd l RS.text s (pl l s) := by
  intro d b p S hb hp hpl hA
  obtain ⟨q, hq, _, hlt⟩ := posOf_lt l 0 s hs
  have hg := (posOf_get l 0 q s hq).1
  rw [Nat.sub_zero] at hg
  have hpq : pl l s = beN (q : Int) 2 := by unfold pl; rw [hq]; rfl
  rw [hpq] at hp ⊢
  have h := rd_num l 2 (beN q 2) (beN_len _ 2) d b p S hb hp hpl hA
  rw [numF_be2 _ (by omega) (by omega), Int.toNat_natCast] at h
  unfold RS.text
  split at h
  · rename_i hc
    obtain ⟨h1, h2⟩ := h
    obtain ⟨o1, o2⟩ := h2.okS
    dsimp only at h1 o1 o2
    rw [if_pos hc, h1, o1, o2.pool, if_neg (by simp), if_neg (by omega)]
    exact ⟨hg, o2⟩
  · rename_i hc
    rw [if_neg hc]
    obtain ⟨o1, o2⟩ := h.okS
    dsimp only at o1 o2
    rw [o1, if_pos rfl]
    exact o2
theorem dsp_text : DSp RS.text := fun T h => by
  obtain ⟨o1, o2⟩ := (h.take 2 T.at_).okS
  unfold RS.text
  have o1' : (T.num 2).2.okS.1 = false := o1
  rw [o1', if_pos rfl]
  exact o2

theorem rd_flag (l : List Tx) (f : Bool) : Rd l RS.flag f (beN (yesI f) 1) := by
  intro d b p S hb hp hpl hA
  have hy := yesI_le f
  have h := rd_num l 1 (beN (yesI f) 1) (beN_len _ 1) d b p S hb hp hpl hA
  rw [numF_be1 _ hy.1 hy.2] at h
  unfold RS.flag
  split at h
  · rename_i hc
    obtain ⟨h1, h2⟩ := h
    dsimp only at h1 h2
    rw [if_pos hc]
    dsimp only
    rw [h1]
    cases f
    · exact ⟨rfl, h2⟩
    · exact ⟨rfl, h2⟩
  · rename_i hc
    rw [if_neg hc]
    dsimp only at h ⊢
    split
    · exact h.fails 3
    · exact h
theorem dsp_flag : DSp RS.flag := fun T h => by
  have h1 := h.take 1 T.at_
  unfold RS.flag
  dsimp only
  split
  · exact DS.fails h1 3
  · exact h1

theorem rd_many (l : List Tx) (n : Nat) (hn : n ≤ 65535) : Rd l RS.many n (beN n 2) := by
  intro d b p S hb hp hpl hA
  have h := rd_num l 2 (beN n 2) (beN_len _ 2) d b p S hb hp hpl hA
  rw [numF_be2 _ (by omega) (by omega), Int.toNat_natCast] at h
  unfold RS.many
  split at h
  · rename_i hc
    obtain ⟨h1, h2⟩ := h
    obtain ⟨o1, o2⟩ := h2.okS
    dsimp only at h1 o1 o2
    rw [if_pos hc, o1, h1]
    exact ⟨rfl, o2⟩
  · rename_i hc
    rw [if_neg hc]
    exact h.okS.2
theorem dsp_many : DSp RS.many := fun T h => (h.take 2 T.at_).okS.2

theorem dsp_rep {α : Type} {f : RS → α × RS} (hf : DSp f) : ∀ n, DSp (RS.rep f n)
  | 0 => fun _ h => h
  | n + 1 => fun T h => by
    obtain ⟨o1, o2⟩ := h.okS
    unfold RS.rep
    rw [o1]
    exact o2
theorem rd_rep {α β : Type} {l : List Tx} {f : RS → α × RS} {φ : β → α} {enc : β → List UInt8} (hd : DSp f) : ∀ (vs : List β), (∀ v ∈ vs, Rd l f (φ v) (enc v)) → Rd l (RS.rep f vs.length) (vs.map φ) (vs.flatMap enc)
  | [], _ => rd_ret l []
  | v :: r, h => by
    have ih := rd_rep hd r fun z hz => h z (by simp [hz])
    intro d b p S hb hp hpl hA
    obtain ⟨o1, o2⟩ := hA.okS
    have h2 := rd_seq (g := fun a => seqR (RS.rep f r.length) fun q => retR (a :: q)) (h v (by simp)) (rd_seq ih (rd_ret l (φ v :: r.map φ)) fun q => dsp_ret _) (fun a => dsp_seq (dsp_rep hd _) fun q => dsp_ret _)
    have h3 := h2 d b p S.okS.2 hb (by simpa using hp) hpl o2
    rw [List.append_nil] at h3
    have e : RS.rep f (r.length + 1) S = seqR f (fun a => seqR (RS.rep f r.length) fun q => retR (a :: q)) S.okS.2 := by
      rw [RS.rep, o1]; rfl
    show if p + ((v :: r).flatMap enc).length ≤ b.length then (RS.rep f (r.length + 1) S).1 = φ v :: r.map φ ∧ At (RS.rep f (r.length + 1) S).2 b (p + ((v :: r).flatMap enc).length) l else DS (RS.rep f (r.length + 1) S).2
    rw [e, List.flatMap_cons]
    exact h3

/-! What is read of a class that was written. -/
def Ins.pure (x : Ins) : Ins := ⟨x.o, mI (rowB x.o 1) x.a, mI (rowB x.o 2) x.b, mS (rowB x.o 3) x.c, mS (rowB x.o 4) x.n, mS (rowB x.o 5) x.d⟩
def Mth.pure (m : Mth) : Mth := { m with code := m.code.map Ins.pure }
def Cls.pure (c : Cls) : Cls := { c with ms := c.ms.map Mth.pure }

def RS.opR (S : RS) : Nat × RS := ((S.num 1).1, S.insO)
theorem rd_op (l : List Tx) (o : Int) (h1 : 0 ≤ o) (h2 : o ≤ 255) (hi : inR o = true) : Rd l RS.opR o.toNat (beN o 1) := by
  intro d b p S hb hp hpl hA
  have h := rd_num l 1 (beN o 1) (beN_len _ 1) d b p S hb hp hpl hA
  rw [numF_be1 _ h1 h2] at h
  have ho : ((o.toNat : Nat) : Int) = o := by omega
  unfold RS.opR RS.insO
  split at h
  · rename_i hc
    obtain ⟨q1, q2⟩ := h
    obtain ⟨o1, o2⟩ := q2.okS
    dsimp only at q1 o1 o2
    rw [if_pos hc, q1, ho, hi, if_neg (by simp)]
    exact ⟨rfl, o2⟩
  · rename_i hc
    rw [if_neg hc]
    obtain ⟨o1, o2⟩ := h.okS
    dsimp only at o1 o2 ⊢
    rw [o1, if_neg (by simp)]
    exact o2
theorem dsp_op : DSp RS.opR := fun T h => by
  obtain ⟨o1, o2⟩ := (h.take 1 T.at_).okS
  have o1' : (T.num 1).2.okS.1 = false := o1
  unfold RS.opR RS.insO
  dsimp only
  rw [o1', if_neg (by simp)]
  exact o2

theorem rd_insA (l : List Tx) (o : Nat) (a : Int) (h : rowB o 1 = true → -2147483648 ≤ a ∧ a ≤ 2147483647) : Rd l (fun S => S.insA o) (mI (rowB o 1) a) (bif rowB o 1 then beN a 4 else []) := by
  unfold RS.insA
  cases hr : rowB o 1
  · exact rd_ret l 0
  · exact rd_i4 l a (h hr).1 (h hr).2
theorem rd_insB (l : List Tx) (o : Nat) (a : Int) (h : rowB o 2 = true → -2147483648 ≤ a ∧ a ≤ 2147483647) : Rd l (fun S => S.insB o) (mI (rowB o 2) a) (bif rowB o 2 then beN a 4 else []) := by
  unfold RS.insB
  cases hr : rowB o 2
  · exact rd_ret l 0
  · exact rd_i4 l a (h hr).1 (h hr).2
theorem rd_insT {l : List Tx} (hl : l.length ≤ 65536) (o k : Nat) (s : Tx) (h : rowB o k = true → s ∈ l) : Rd l (fun S => S.insT o k) (mS (rowB o k) s) (bif rowB o k then pl l s else []) := by
  unfold RS.insT
  cases hr : rowB o k
  · exact rd_ret l []
  · exact rd_text hl s (h hr)
theorem dsp_insA (o : Nat) : DSp fun S => S.insA o := by
  unfold RS.insA
  cases rowB o 1
  · exact dsp_ret 0
  · exact dsp_i4
theorem dsp_insB (o : Nat) : DSp fun S => S.insB o := by
  unfold RS.insB
  cases rowB o 2
  · exact dsp_ret 0
  · exact dsp_i4
theorem dsp_insT (o k : Nat) : DSp fun S => S.insT o k := by
  unfold RS.insT
  cases rowB o k
  · exact dsp_ret []
  · exact dsp_text

theorem ins_seq : RS.ins = seqR RS.opR fun o => seqR (fun S => S.insA o) fun a => seqR (fun S => S.insB o) fun b => seqR (fun S => S.insT o 3) fun c => seqR (fun S => S.insT o 4) fun n => seqR (fun S => S.insT o 5) fun d => retR ⟨o, a, b, c, n, d⟩ := rfl
theorem dsp_ins : DSp RS.ins := by
  rw [ins_seq]
  exact dsp_seq dsp_op fun o => dsp_seq (dsp_insA o) fun a => dsp_seq (dsp_insB o) fun b => dsp_seq (dsp_insT o 3) fun c => dsp_seq (dsp_insT o 4) fun n => dsp_seq (dsp_insT o 5) fun d => dsp_ret _

theorem rd_ins {l : List Tx} (hl : l.length ≤ 65536) (x : Ins) (hi : inR x.o = true) (h0 : 0 ≤ x.o ∧ x.o ≤ 255) (ha : rowB x.o 1 = true → -2147483648 ≤ x.a ∧ x.a ≤ 2147483647) (hb : rowB x.o 2 = true → -2147483648 ≤ x.b ∧ x.b ≤ 2147483647) (hx : ∀ s ∈ x.texts, s ∈ l) :
    Rd l RS.ins x.pure (iB l x) := by
  obtain ⟨o, a, b, c, n, d⟩ := x
  dsimp only at hi h0 ha hb
  obtain ⟨o', rfl⟩ : ∃ k : Nat, o = (k : Int) := ⟨o.toNat, by omega⟩
  have t3 : rowB (o' : Int) 3 = true → c ∈ l := fun h => hx _ (by simp [Ins.texts, h])
  have t4 : rowB (o' : Int) 4 = true → n ∈ l := fun h => hx _ (by simp [Ins.texts, h])
  have t5 : rowB (o' : Int) 5 = true → d ∈ l := fun h => hx _ (by simp [Ins.texts, h])
  have e : iB l ⟨(o' : Int), a, b, c, n, d⟩ = beN (o' : Int) 1 ++ ((bif rowB (o' : Int) 1 then beN a 4 else []) ++ ((bif rowB (o' : Int) 2 then beN b 4 else []) ++ ((bif rowB (o' : Int) 3 then pl l c else []) ++ ((bif rowB (o' : Int) 4 then pl l n else []) ++ ((bif rowB (o' : Int) 5 then pl l d else []) ++ []))))) := by
    unfold iB
    rw [texts_flat]
    simp only [List.append_assoc, List.append_nil]
  have q0 : Rd l RS.opR o' (beN (o' : Int) 1) := by
    have := rd_op l (o' : Int) h0.1 h0.2 hi
    rwa [Int.toNat_natCast] at this
  have q1 := rd_insA l o' a ha
  have q2 := rd_insB l o' b hb
  have q3 := rd_insT hl o' 3 c t3
  have q4 := rd_insT hl o' 4 n t4
  have q5 := rd_insT hl o' 5 d t5
  rw [e, ins_seq]
  unfold Ins.pure
  dsimp only
  generalize mI (rowB (o' : Int) 1) a = a' at *
  generalize mI (rowB (o' : Int) 2) b = b' at *
  generalize mS (rowB (o' : Int) 3) c = c' at *
  generalize mS (rowB (o' : Int) 4) n = n' at *
  generalize mS (rowB (o' : Int) 5) d = d' at *
  have s5 := rd_seq (g := fun d => retR (⟨(o' : Int), a', b', c', n', d⟩ : Ins)) q5 (rd_ret l _) (fun d => dsp_ret _)
  have s4 := rd_seq (g := fun n => seqR (fun S => S.insT o' 5) fun d => retR (⟨(o' : Int), a', b', c', n, d⟩ : Ins)) q4 s5 (fun n => dsp_seq (dsp_insT _ 5) fun d => dsp_ret _)
  have s3 := rd_seq (g := fun c => seqR (fun S => S.insT o' 4) fun n => seqR (fun S => S.insT o' 5) fun d => retR (⟨(o' : Int), a', b', c, n, d⟩ : Ins)) q3 s4 (fun c => dsp_seq (dsp_insT _ 4) fun n => dsp_seq (dsp_insT _ 5) fun d => dsp_ret _)
  have s2 := rd_seq (g := fun b => seqR (fun S => S.insT o' 3) fun c => seqR (fun S => S.insT o' 4) fun n => seqR (fun S => S.insT o' 5) fun d => retR (⟨(o' : Int), a', b, c, n, d⟩ : Ins)) q2 s3 (fun b => dsp_seq (dsp_insT _ 3) fun c => dsp_seq (dsp_insT _ 4) fun n => dsp_seq (dsp_insT _ 5) fun d => dsp_ret _)
  have s1 := rd_seq (g := fun a => seqR (fun S => S.insB o') fun b => seqR (fun S => S.insT o' 3) fun c => seqR (fun S => S.insT o' 4) fun n => seqR (fun S => S.insT o' 5) fun d => retR (⟨(o' : Int), a, b, c, n, d⟩ : Ins)) q1 s2 (fun a => dsp_seq (dsp_insB _) fun b => dsp_seq (dsp_insT _ 3) fun c => dsp_seq (dsp_insT _ 4) fun n => dsp_seq (dsp_insT _ 5) fun d => dsp_ret _)
  exact rd_seq (g := fun (o : Nat) => seqR (fun S => S.insA o) fun a => seqR (fun S => S.insB o) fun b => seqR (fun S => S.insT o 3) fun c => seqR (fun S => S.insT o 4) fun n => seqR (fun S => S.insT o 5) fun d => retR (⟨(o : Int), a, b, c, n, d⟩ : Ins)) q0 s1
    fun o => dsp_seq (dsp_insA o) fun a => dsp_seq (dsp_insB o) fun b => dsp_seq (dsp_insT o 3) fun c => dsp_seq (dsp_insT o 4) fun n => dsp_seq (dsp_insT o 5) fun d => dsp_ret _

theorem hnd_seq : RS.hnd = seqR (fun S => S.num 2) fun f => seqR (fun S => S.num 2) fun t => seqR (fun S => S.num 2) fun a => seqR RS.text fun c => retR ⟨f, t, a, c⟩ := rfl
theorem dsp_hnd : DSp RS.hnd := by
  rw [hnd_seq]
  exact dsp_seq (dsp_num 2) fun f => dsp_seq (dsp_num 2) fun t => dsp_seq (dsp_num 2) fun a => dsp_seq dsp_text fun c => dsp_ret _
theorem rd_u2 (l : List Tx) (z : Int) (h1 : 0 ≤ z) (h2 : z ≤ 65535) : Rd l (fun S => S.num 2) z.toNat (beN z 2) := rd_map (rd_num l 2 (beN z 2) (beN_len z 2)) (numF_be2 z h1 h2)
theorem rd_u1 (l : List Tx) (z : Int) (h1 : 0 ≤ z) (h2 : z ≤ 255) : Rd l (fun S => S.num 1) z.toNat (beN z 1) := rd_map (rd_num l 1 (beN z 1) (beN_len z 1)) (numF_be1 z h1 h2)
theorem rd_hnd {l : List Tx} (hl : l.length ≤ 65536) (h : Hnd) (h1 : 0 ≤ h.f ∧ h.f ≤ 65535) (h2 : 0 ≤ h.t ∧ h.t ≤ 65535) (h3 : 0 ≤ h.a ∧ h.a ≤ 65535) (hc : h.c ∈ l) : Rd l RS.hnd h (hB l h) := by
  have e : hB l h = beN h.f 2 ++ (beN h.t 2 ++ (beN h.a 2 ++ (pl l h.c ++ []))) := by unfold hB; simp only [List.append_assoc, List.append_nil]
  have s3 := rd_seq (g := fun c => retR (⟨(h.f.toNat : Int), (h.t.toNat : Int), (h.a.toNat : Int), c⟩ : Hnd)) (rd_text hl h.c hc) (rd_ret l _) (fun c => dsp_ret _)
  have s2 := rd_seq (g := fun (a : Nat) => seqR RS.text fun c => retR (⟨(h.f.toNat : Int), (h.t.toNat : Int), (a : Int), c⟩ : Hnd)) (rd_u2 l h.a h3.1 h3.2) s3 (fun a => dsp_seq dsp_text fun c => dsp_ret _)
  have s1 := rd_seq (g := fun (t : Nat) => seqR (fun S => S.num 2) fun (a : Nat) => seqR RS.text fun c => retR (⟨(h.f.toNat : Int), (t : Int), (a : Int), c⟩ : Hnd)) (rd_u2 l h.t h2.1 h2.2) s2 (fun t => dsp_seq (dsp_num 2) fun a => dsp_seq dsp_text fun c => dsp_ret _)
  have q := rd_seq (g := fun (f : Nat) => seqR (fun S => S.num 2) fun (t : Nat) => seqR (fun S => S.num 2) fun (a : Nat) => seqR RS.text fun c => retR (⟨(f : Int), (t : Int), (a : Int), c⟩ : Hnd)) (rd_u2 l h.f h1.1 h1.2) s1 (fun f => dsp_seq (dsp_num 2) fun t => dsp_seq (dsp_num 2) fun a => dsp_seq dsp_text fun c => dsp_ret _)
  rw [e, hnd_seq]
  refine rd_map q ?_
  rw [Int.toNat_of_nonneg h1.1, Int.toNat_of_nonneg h2.1, Int.toNat_of_nonneg h3.1]

theorem fld_seq : RS.fld = seqR RS.text fun n => seqR RS.text fun d => seqR RS.flag fun s => retR ⟨n, d, s⟩ := rfl
theorem dsp_fld : DSp RS.fld := by
  rw [fld_seq]
  exact dsp_seq dsp_text fun n => dsp_seq dsp_text fun d => dsp_seq dsp_flag fun s => dsp_ret _
theorem rd_fld {l : List Tx} (hl : l.length ≤ 65536) (f : Fld) (h1 : f.n ∈ l) (h2 : f.d ∈ l) : Rd l RS.fld f (fB l f) := by
  have e : fB l f = pl l f.n ++ (pl l f.d ++ (beN (yesI f.s) 1 ++ [])) := by unfold fB; simp only [List.append_assoc, List.append_nil]
  rw [e, fld_seq]
  exact rd_seq (g := fun n => seqR RS.text fun d => seqR RS.flag fun s => retR (⟨n, d, s⟩ : Fld)) (rd_text hl f.n h1) (rd_seq (rd_text hl f.d h2) (rd_seq (rd_flag l f.s) (rd_ret l f) fun s => dsp_ret _) fun d => dsp_seq dsp_flag fun s => dsp_ret _) fun n => dsp_seq dsp_text fun d => dsp_seq dsp_flag fun s => dsp_ret _

/-- The rest of a method, behind its numbers. -/
def mthC (n d : Tx) (s a : Bool) (st lo : Nat) : RS → Mth × RS := seqR RS.many fun k => seqR (RS.rep RS.ins k) fun code => seqR RS.many fun q => seqR (RS.rep RS.hnd q) fun hs => retR ⟨n, d, s, a, st, lo, code, hs⟩
theorem mth_seq : RS.mth = seqR RS.text fun n => seqR RS.text fun d => seqR RS.flag fun s => seqR RS.flag fun a => seqR (fun S => S.num 1) fun st => seqR (fun S => S.num 1) fun lo => mthC n d s a st lo := rfl
theorem dsp_mthC (n d : Tx) (s a : Bool) (st lo : Nat) : DSp (mthC n d s a st lo) := dsp_seq dsp_many fun k => dsp_seq (dsp_rep dsp_ins k) fun code => dsp_seq dsp_many fun q => dsp_seq (dsp_rep dsp_hnd q) fun hs => dsp_ret _
theorem dsp_mth : DSp RS.mth := by
  rw [mth_seq]
  exact dsp_seq dsp_text fun n => dsp_seq dsp_text fun d => dsp_seq dsp_flag fun s => dsp_seq dsp_flag fun a => dsp_seq (dsp_num 1) fun st => dsp_seq (dsp_num 1) fun lo => dsp_mthC n d s a st lo

theorem rd_mthC {l : List Tx} (hl : l.length ≤ 65536) (m : Mth) (ho : m.Ok) (hi : ∀ x ∈ m.code, inR x.o = true) (hx : ∀ s ∈ mT m, s ∈ l) (n d : Tx) (s a : Bool) (st lo : Nat) :
    Rd l (mthC n d s a st lo) ⟨n, d, s, a, st, lo, m.code.map Ins.pure, m.hs⟩ (beN m.code.length 2 ++ (m.code.flatMap (iB l) ++ (beN m.hs.length 2 ++ (m.hs.flatMap (hB l) ++ [])))) := by
  have hcl := ho.code
  have hhl := ho.hs
  have c1 := rd_rep (l := l) (f := RS.ins) (φ := Ins.pure) (enc := iB l) dsp_ins m.code fun x hxm => by
    obtain ⟨q1, q2, q3⟩ := ho.ins x hxm
    exact rd_ins hl x (hi x hxm) q1 q2 q3 fun t ht => hx t (by simp only [mT, List.mem_append, List.mem_flatMap]; exact .inr (.inl ⟨x, hxm, ht⟩))
  have c2 := rd_rep (l := l) (f := RS.hnd) (φ := id) (enc := hB l) dsp_hnd m.hs fun h hhm => by
    obtain ⟨q1, q2, q3⟩ := ho.hnd h hhm
    exact rd_hnd hl h ⟨q1.1, by omega⟩ ⟨q2.1, by omega⟩ ⟨q3.1, by omega⟩ (hx _ (by simp only [mT, List.mem_append, List.mem_map]; exact .inr (.inr ⟨h, hhm, rfl⟩)))
  rw [List.map_id] at c2
  exact rd_seq (g := fun k => seqR (RS.rep RS.ins k) fun code => seqR RS.many fun q => seqR (RS.rep RS.hnd q) fun hs => retR (⟨n, d, s, a, st, lo, code, hs⟩ : Mth)) (rd_many l m.code.length (by omega)) (rd_seq c1 (rd_seq (g := fun q => seqR (RS.rep RS.hnd q) fun hs => retR (⟨n, d, s, a, st, lo, m.code.map Ins.pure, hs⟩ : Mth)) (rd_many l m.hs.length (by omega)) (rd_seq c2 (rd_ret l _) fun hs => dsp_ret _)
    fun q => dsp_seq (dsp_rep dsp_hnd q) fun hs => dsp_ret _) fun code => dsp_seq dsp_many fun q => dsp_seq (dsp_rep dsp_hnd q) fun hs => dsp_ret _) fun k => dsp_seq (dsp_rep dsp_ins k) fun code => dsp_seq dsp_many fun q => dsp_seq (dsp_rep dsp_hnd q) fun hs => dsp_ret _

theorem rd_mth {l : List Tx} (hl : l.length ≤ 65536) (m : Mth) (ho : m.Ok) (hi : ∀ x ∈ m.code, inR x.o = true) (hx : ∀ s ∈ mT m, s ∈ l) : Rd l RS.mth m.pure (mB l m) := by
  obtain ⟨s1, s2⟩ := ho.st
  obtain ⟨t1, t2⟩ := ho.lo
  have e : mB l m = pl l m.n ++ (pl l m.d ++ (beN (yesI m.s) 1 ++ (beN (yesI m.a) 1 ++ (beN m.st 1 ++ (beN m.lo 1 ++ (beN m.code.length 2 ++ (m.code.flatMap (iB l) ++ (beN m.hs.length 2 ++ (m.hs.flatMap (hB l) ++ []))))))))) := by unfold mB; simp only [List.append_assoc, List.append_nil]
  rw [e, mth_seq]
  have q := rd_seq (g := fun n => seqR RS.text fun d => seqR RS.flag fun s => seqR RS.flag fun a => seqR (fun S => S.num 1) fun st => seqR (fun S => S.num 1) fun lo => mthC n d s a st lo) (rd_text hl m.n (hx _ (by simp [mT]))) (rd_seq (g := fun d => seqR RS.flag fun s => seqR RS.flag fun a => seqR (fun S => S.num 1) fun st => seqR (fun S => S.num 1) fun lo => mthC m.n d s a st lo) (rd_text hl m.d (hx _ (by simp [mT]))) (rd_seq (g := fun s => seqR RS.flag fun a => seqR (fun S => S.num 1) fun st => seqR (fun S => S.num 1) fun lo => mthC m.n m.d s a st lo) (rd_flag l m.s) (rd_seq (g := fun a => seqR (fun S => S.num 1) fun st => seqR (fun S => S.num 1) fun lo => mthC m.n m.d m.s a st lo) (rd_flag l m.a) (rd_seq (g := fun st => seqR (fun S => S.num 1) fun lo => mthC m.n m.d m.s m.a st lo) (rd_u1 l m.st s1 (by omega)) (rd_seq (g := fun lo => mthC m.n m.d m.s m.a m.st.toNat lo) (rd_u1 l m.lo t1 (by omega)) (rd_mthC hl m ho hi hx m.n m.d m.s m.a m.st.toNat m.lo.toNat)
    fun lo => dsp_mthC _ _ _ _ _ _) fun st => dsp_seq (dsp_num 1) fun lo => dsp_mthC _ _ _ _ _ _) fun a => dsp_seq (dsp_num 1) fun st => dsp_seq (dsp_num 1) fun lo => dsp_mthC _ _ _ _ _ _) fun s => dsp_seq dsp_flag fun a => dsp_seq (dsp_num 1) fun st => dsp_seq (dsp_num 1) fun lo => dsp_mthC _ _ _ _ _ _)
    fun d => dsp_seq dsp_flag fun s => dsp_seq dsp_flag fun a => dsp_seq (dsp_num 1) fun st => dsp_seq (dsp_num 1) fun lo => dsp_mthC _ _ _ _ _ _) fun n => dsp_seq dsp_text fun d => dsp_seq dsp_flag fun s => dsp_seq dsp_flag fun a => dsp_seq (dsp_num 1) fun st => dsp_seq (dsp_num 1) fun lo => dsp_mthC _ _ _ _ _ _
  refine rd_map q ?_
  rw [Int.toNat_of_nonneg s1, Int.toNat_of_nonneg t1]
  rfl

/-! What is read of a class that was written, or of its first bytes: all of it. -/
def magicR (m : Nat) : RS → Unit × RS := fun S => ((), S.magic1 m)
theorem rd_magic (l : List Tx) (m : Nat) (hm : m ≤ 255) : Rd l (magicR m) () (beN m 1) := by
  intro d b p S hb hp hpl hA
  have h := rd_num l 1 (beN m 1) (beN_len _ 1) d b p S hb hp hpl hA
  rw [numF_be1 _ (by omega) (by omega), Int.toNat_natCast] at h
  unfold magicR RS.magic1
  split at h
  · rename_i hc
    obtain ⟨q1, q2⟩ := h
    obtain ⟨o1, o2⟩ := q2.okS
    dsimp only at q1 o1 o2
    rw [if_pos hc, q1, if_neg (by simp)]
    exact ⟨rfl, o2⟩
  · rename_i hc
    rw [if_neg hc]
    obtain ⟨o1, o2⟩ := h.okS
    dsimp only at o1 o2 ⊢
    rw [o1, if_neg (by simp)]
    exact o2
theorem dsp_magic (m : Nat) : DSp (magicR m) := fun T h => by
  obtain ⟨o1, o2⟩ := (h.take 1 T.at_).okS
  have o1' : (T.num 1).2.okS.1 = false := o1
  unfold magicR RS.magic1
  dsimp only
  rw [o1', if_neg (by simp)]
  exact o2
def magicAll : RS → Unit × RS := fun S => ((), S.magic)
theorem magicAll_seq : magicAll = seqR (magicR 83) fun _ => seqR (magicR 66) fun _ => seqR (magicR 67) fun _ => magicR 49 := by
  funext S
  unfold magicAll seqR magicR RS.magic
  rfl
theorem rd_magicAll (l : List Tx) : Rd l magicAll () [83, 66, 67, 49] := by
  have e : ([83, 66, 67, 49] : List UInt8) = beN (83 : Nat) 1 ++ (beN (66 : Nat) 1 ++ (beN (67 : Nat) 1 ++ beN (49 : Nat) 1)) := by rfl
  rw [e, magicAll_seq]
  have s3 := rd_seq (g := fun _ => magicR 49) (rd_magic l 67 (by omega)) (rd_magic l 49 (by omega)) fun _ => dsp_magic _
  have s2 := rd_seq (g := fun _ => seqR (magicR 67) fun _ => magicR 49) (rd_magic l 66 (by omega)) s3 fun _ => dsp_seq (dsp_magic _) fun _ => dsp_magic _
  exact rd_seq (g := fun _ => seqR (magicR 66) fun _ => seqR (magicR 67) fun _ => magicR 49) (rd_magic l 83 (by omega)) s2 fun _ => dsp_seq (dsp_magic _) fun _ => dsp_seq (dsp_magic _) fun _ => dsp_magic _
theorem dsp_magicAll : DSp magicAll := by
  rw [magicAll_seq]
  exact dsp_seq (dsp_magic _) fun _ => dsp_seq (dsp_magic _) fun _ => dsp_seq (dsp_magic _) fun _ => dsp_magic _

theorem rd_rtext (l : List Tx) (t : Tx) (ht : t.length ≤ 65535) : Rd l RS.rtext t (tB t) := by
  intro d b p S hb hp hpl hA
  unfold tB at hp ⊢
  have h := rd_num l 2 (beN t.length 2) (beN_len _ 2) d b p S hb (pre_left hp) hpl hA
  rw [numF_be2 _ (by omega) (by omega), Int.toNat_natCast] at h
  rw [List.length_append]
  unfold RS.rtext
  split at h
  · rename_i hc
    obtain ⟨q1, q2⟩ := h
    dsimp only at q1 q2
    have h2 := q2.take (S.num 2).1 S.at_
    rw [q1] at h2 ⊢
    split at h2
    · rename_i hc2
      rw [if_pos (by omega)]
      have hs := slice_eq hb (pre_right hp) hc2
      dsimp only
      refine ⟨h2.1.trans hs, ?_⟩
      rw [← Nat.add_assoc]
      exact h2.2
    · rename_i hc2
      rw [if_neg (by omega)]
      exact h2
  · rename_i hc
    rw [if_neg (by omega)]
    exact h.take _ _
theorem dsp_rtext : DSp RS.rtext := fun T h => (h.take 2 T.at_).take _ _

theorem dsp_addT {T : RS} (h : DS T) : DS T.addT := by
  have := dsp_rtext T h
  exact this
theorem dsp_poolR : ∀ (n : Nat) (T : RS), DS T → DS (RS.poolR n T)
  | 0, _, h => h
  | n + 1, T, h => by
    obtain ⟨o1, o2⟩ := h.okS
    unfold RS.poolR
    rw [o1]
    exact o2
theorem rd_pool : ∀ (ts l0 : List Tx) (d b : List UInt8) (p : Nat) (S : RS), (∀ t ∈ ts, t.length ≤ 65535) → b <+: d → ts.flatMap tB <+: d.drop p → p ≤ b.length → At S b p l0 →
    if p + (ts.flatMap tB).length ≤ b.length then At (RS.poolR ts.length S) b (p + (ts.flatMap tB).length) (l0 ++ ts) else DS (RS.poolR ts.length S)
  | [], l0, d, b, p, S, _, _, _, hpl, hA => by
    simp only [List.flatMap_nil, List.length_nil, Nat.add_zero, List.append_nil, if_pos hpl]
    exact hA
  | t :: r, l0, d, b, p, S, ht, hb, hp, hpl, hA => by
    obtain ⟨o1, o2⟩ := hA.okS
    have e : RS.poolR (t :: r).length S = RS.poolR r.length S.okS.2.addT := by
      show RS.poolR (r.length + 1) S = _
      rw [RS.poolR, o1]; rfl
    rw [e]
    rw [List.flatMap_cons] at hp ⊢
    rw [List.length_append]
    have h := rd_rtext l0 t (ht t (by simp)) d b p S.okS.2 hb (pre_left hp) hpl o2
    split at h
    · rename_i hc
      obtain ⟨q1, q2⟩ := h
      have hA2 : At S.okS.2.addT b (p + (tB t).length) (l0 ++ [t]) := by
        refine ⟨q2.b, q2.at_, q2.fl, q2.e, ?_⟩
        show S.okS.2.pool ++ [S.okS.2.rtext.1] = _
        rw [o2.pool, q1]
      have ih := rd_pool r (l0 ++ [t]) d b (p + (tB t).length) S.okS.2.addT (fun z hz => ht z (by simp [hz])) hb (pre_right hp) hc hA2
      rw [← Nat.add_assoc]
      rw [List.append_assoc, List.singleton_append] at ih
      exact ih
    · rename_i hc
      rw [if_neg (by omega)]
      exact dsp_poolR _ _ h

def clsI (n s : Tx) (i a : Bool) : RS → Cls × RS := seqR RS.many fun k => seqR (RS.rep RS.text k) fun im => seqR RS.many fun q => seqR (RS.rep RS.fld q) fun fs => seqR RS.many fun r => seqR (RS.rep RS.mth r) fun ms => retR ⟨n, s, i, a, im, fs, ms⟩
def clsR : RS → Cls × RS := seqR RS.text fun n => seqR RS.text fun s => seqR RS.flag fun i => seqR RS.flag fun a => clsI n s i a
theorem cls_eq (S : RS) : S.cls = clsR (RS.poolR S.magic.many.1 S.magic.many.2) := rfl
theorem dsp_clsI (n s : Tx) (i a : Bool) : DSp (clsI n s i a) := dsp_seq dsp_many fun k => dsp_seq (dsp_rep dsp_text k) fun im => dsp_seq dsp_many fun q => dsp_seq (dsp_rep dsp_fld q) fun fs => dsp_seq dsp_many fun r => dsp_seq (dsp_rep dsp_mth r) fun ms => dsp_ret _
theorem dsp_clsR : DSp clsR := dsp_seq dsp_text fun n => dsp_seq dsp_text fun s => dsp_seq dsp_flag fun i => dsp_seq dsp_flag fun a => dsp_clsI n s i a

theorem inR_of (m : Mth) (h : errM m = 0) : ∀ x ∈ m.code, inR x.o = true := by
  intro x hx
  unfold errM at h
  cases h1 : nmdM m
  · rw [h1] at h; simp at h
  cases h2 : limM m
  · rw [h1, h2] at h; simp at h
  rw [h1, h2] at h
  simp only [Bool.not_true, cond_false] at h
  cases h3 : (m.a && (m.s || !bareM m)) || (!m.a && (m.code.length : Int) == 0)
  · rw [h3, cond_false] at h
    cases ha : m.a
    · rw [ha, cond_false] at h
      cases h4 : decide (m.lo < leastM m)
      · rw [h4, cond_false] at h
        cases h5 : errC m == 0
        · rw [h5, cond_false] at h
          rw [h] at h5; simp at h5
        · have h5' : errC m = 0 := by simpa using h5
          have hz := firstE_zero _ _ h5' x hx
          unfold chkI at hz
          cases q1 : inR x.o
          · rw [q1] at hz; simp at hz
          · rfl
      · rw [h4] at h; simp at h
    · rw [ha] at h3
      simp [bareM] at h3
      obtain ⟨_, _, _, k1, _⟩ := h3
      rw [k1] at hx; cases hx
  · rw [h3] at h; simp at h

/-- What a class that may be has besides. -/
structure Cls.Ok2 (c : Cls) : Prop where
  (ok : c.Ok) (ins : ∀ m ∈ c.ms, ∀ x ∈ m.code, inR x.o = true)
theorem Cls.ok2_of (c : Cls) (h : c.err = 0) : c.Ok2 := by
  refine ⟨c.ok_of h, fun m hm => ?_⟩
  unfold Cls.err at h
  cases h1 : !(nameOk c.n && ((c.s == []) || nameOk c.s)) || c.im.any (fun s => !nameOk s)
  · rw [h1, cond_false] at h
    cases h2 : decide (30 < (c.im.length : Int)) || (decide (20 < (c.fs.length : Int)) || decide (20 < (c.ms.length : Int)))
    · rw [h2, cond_false] at h
      cases h3 : c.fs.any (fun f => !(nameOk f.n && typeOk f.d))
      · rw [h3, cond_false] at h
        cases h4 : firstE errM c.ms == 0
        · rw [h4, cond_false] at h
          rw [h] at h4; simp at h4
        · exact inR_of m (firstE_zero _ _ (by simpa using h4) m hm)
      · rw [h3] at h; simp at h
    · rw [h2] at h; simp at h
  · rw [h1] at h; simp at h

def restB (c : Cls) (l : List Tx) : List UInt8 := pl l c.n ++ (pl l c.s ++ (beN (yesI c.i) 1 ++ (beN (yesI c.a) 1 ++ (beN c.im.length 2 ++ (c.im.flatMap (pl l) ++ (beN c.fs.length 2 ++ (c.fs.flatMap (fB l) ++ (beN c.ms.length 2 ++ (c.ms.flatMap (mB l) ++ [])))))))))
theorem bytesL_eq (c : Cls) (l : List Tx) : c.bytesL l = [83, 66, 67, 49] ++ (beN l.length 2 ++ (l.flatMap tB ++ restB c l)) := by
  unfold Cls.bytesL restB; simp only [List.append_assoc, List.append_nil]

theorem rd_clsR {l : List Tx} (hl : l.length ≤ 65536) (c : Cls) (ho : c.Ok2) (hx : ∀ s ∈ c.texts, s ∈ l) : Rd l clsR c.pure (restB c l) := by
  have q1 := ho.ok.im
  have q2 := ho.ok.fs
  have q3 := ho.ok.ms
  have c1 := rd_rep (l := l) (f := RS.text) (φ := id) (enc := pl l) dsp_text c.im fun s hs => rd_text hl s (hx s (by simp [Cls.texts, hs]))
  have c2 := rd_rep (l := l) (f := RS.fld) (φ := id) (enc := fB l) dsp_fld c.fs fun f hf => rd_fld hl f (hx _ (by simp only [Cls.texts, List.mem_append, List.mem_flatMap]; exact .inr (.inr (.inl ⟨f, hf, by simp [fT]⟩)))) (hx _ (by simp only [Cls.texts, List.mem_append, List.mem_flatMap]; exact .inr (.inr (.inl ⟨f, hf, by simp [fT]⟩))))
  have c3 := rd_rep (l := l) (f := RS.mth) (φ := Mth.pure) (enc := mB l) dsp_mth c.ms fun m hm => rd_mth hl m (ho.ok.mss m hm) (ho.ins m hm) fun s hs => hx s (by simp only [Cls.texts, List.mem_append, List.mem_flatMap]; exact .inr (.inr (.inr ⟨m, hm, hs⟩)))
  rw [List.map_id] at c1 c2
  unfold restB clsR clsI
  have t6 := rd_seq (g := fun ms => retR (⟨c.n, c.s, c.i, c.a, c.im, c.fs, ms⟩ : Cls)) c3 (rd_ret l _) fun ms => dsp_ret _
  have t5 := rd_seq (g := fun r => seqR (RS.rep RS.mth r) fun ms => retR (⟨c.n, c.s, c.i, c.a, c.im, c.fs, ms⟩ : Cls)) (rd_many l c.ms.length (by omega)) t6 fun r => dsp_seq (dsp_rep dsp_mth r) fun ms => dsp_ret _
  have t4 := rd_seq (g := fun fs => seqR RS.many fun r => seqR (RS.rep RS.mth r) fun ms => retR (⟨c.n, c.s, c.i, c.a, c.im, fs, ms⟩ : Cls)) c2 t5 fun fs => dsp_seq dsp_many fun r => dsp_seq (dsp_rep dsp_mth r) fun ms => dsp_ret _
  have t3 := rd_seq (g := fun q => seqR (RS.rep RS.fld q) fun fs => seqR RS.many fun r => seqR (RS.rep RS.mth r) fun ms => retR (⟨c.n, c.s, c.i, c.a, c.im, fs, ms⟩ : Cls)) (rd_many l c.fs.length (by omega)) t4 fun q => dsp_seq (dsp_rep dsp_fld q) fun fs => dsp_seq dsp_many fun r => dsp_seq (dsp_rep dsp_mth r) fun ms => dsp_ret _
  have t2 := rd_seq (g := fun im => seqR RS.many fun q => seqR (RS.rep RS.fld q) fun fs => seqR RS.many fun r => seqR (RS.rep RS.mth r) fun ms => retR (⟨c.n, c.s, c.i, c.a, im, fs, ms⟩ : Cls)) c1 t3 fun im => dsp_seq dsp_many fun q => dsp_seq (dsp_rep dsp_fld q) fun fs => dsp_seq dsp_many fun r => dsp_seq (dsp_rep dsp_mth r) fun ms => dsp_ret _
  have t1 := rd_seq (g := fun k => seqR (RS.rep RS.text k) fun im => seqR RS.many fun q => seqR (RS.rep RS.fld q) fun fs => seqR RS.many fun r => seqR (RS.rep RS.mth r) fun ms => retR (⟨c.n, c.s, c.i, c.a, im, fs, ms⟩ : Cls)) (rd_many l c.im.length (by omega)) t2 fun k => dsp_seq (dsp_rep dsp_text k) fun im => dsp_seq dsp_many fun q => dsp_seq (dsp_rep dsp_fld q) fun fs => dsp_seq dsp_many fun r => dsp_seq (dsp_rep dsp_mth r) fun ms => dsp_ret _
  have u3 := rd_seq (g := fun a => clsI c.n c.s c.i a) (rd_flag l c.a) t1 fun a => dsp_clsI _ _ _ _
  have u2 := rd_seq (g := fun i => seqR RS.flag fun a => clsI c.n c.s i a) (rd_flag l c.i) u3 fun i => dsp_seq dsp_flag fun a => dsp_clsI _ _ _ _
  have u1 := rd_seq (g := fun s => seqR RS.flag fun i => seqR RS.flag fun a => clsI c.n s i a) (rd_text hl c.s (hx _ (by simp [Cls.texts]))) u2 fun s => dsp_seq dsp_flag fun i => dsp_seq dsp_flag fun a => dsp_clsI _ _ _ _
  exact rd_seq (g := fun n => seqR RS.text fun s => seqR RS.flag fun i => seqR RS.flag fun a => clsI n s i a) (rd_text hl c.n (hx _ (by simp [Cls.texts]))) u1 fun n => dsp_seq dsp_text fun s => dsp_seq dsp_flag fun i => dsp_seq dsp_flag fun a => dsp_clsI _ _ _ _

/-- A class's bytes, or the first of them, read. -/
theorem read_all (c : Cls) (hs : c.Small) (ho : c.Ok2) (b : List UInt8) (hb : b <+: c.bytes) :
    if c.bytes.length ≤ b.length then (decR b).cls.1 = c.pure ∧ At (decR b).cls.2 b c.bytes.length c.pool else DS (decR b).cls.2 := by
  have hl := ho.ok.pool
  have hle : ∀ x ∈ c.pool, x.length ≤ 65535 := addL_le 65535 c.texts [] (texts_le c hs) (by simp)
  have hx : ∀ t, t ∈ c.texts → t ∈ c.pool := fun t ht => (addL_mem _).2 (.inr ht)
  have eB : c.bytes = [83, 66, 67, 49] ++ (beN c.pool.length 2 ++ (c.pool.flatMap tB ++ restB c c.pool)) := bytesL_eq c c.pool
  generalize c.pool = l at *
  have hA : At (decR b) b 0 [] := ⟨rfl, rfl, rfl, rfl, rfl⟩
  have h0 := rd_seq (g := fun _ => RS.many) (rd_magicAll []) (rd_many [] l.length (by omega)) fun _ => dsp_many
  have p0 : [83, 66, 67, 49] ++ beN l.length 2 <+: c.bytes.drop 0 := by
    rw [List.drop_zero, eB]
    exact ⟨_, by simp only [List.append_assoc]; rfl⟩
  have h1 := h0 c.bytes b 0 (decR b) hb p0 (Nat.zero_le _) hA
  have elen : c.bytes.length = ([83, 66, 67, 49] ++ beN l.length 2).length + (l.flatMap tB).length + (restB c l).length := by
    rw [eB]; simp only [List.length_append]; omega
  rw [cls_eq]
  have eS : (seqR magicAll (fun _ => RS.many) (decR b)) = (decR b).magic.many := rfl
  rw [eS, Nat.zero_add] at h1
  have p1 : l.flatMap tB <+: c.bytes.drop ([83, 66, 67, 49] ++ beN l.length 2).length := by
    rw [eB, ← List.append_assoc, List.drop_left']
    · exact ⟨_, rfl⟩
    · rfl
  have p2 : restB c l <+: c.bytes.drop (([83, 66, 67, 49] ++ beN l.length 2).length + (l.flatMap tB).length) := by
    rw [eB, ← List.append_assoc, ← List.append_assoc, List.drop_left']
    · exact ⟨[], by simp⟩
    · simp only [List.length_append]
  by_cases c1 : ([83, 66, 67, 49] ++ beN l.length 2).length ≤ b.length
  · rw [if_pos c1] at h1
    rw [h1.1]
    have h2 := rd_pool l [] c.bytes b _ _ hle hb p1 c1 h1.2
    rw [List.nil_append] at h2
    by_cases c2 : ([83, 66, 67, 49] ++ beN l.length 2).length + (l.flatMap tB).length ≤ b.length
    · rw [if_pos c2] at h2
      have h3 := rd_clsR (by omega) c ho hx c.bytes b _ _ hb p2 c2 h2
      rw [elen]
      exact h3
    · rw [if_neg c2] at h2
      rw [if_neg (by omega)]
      exact dsp_clsR _ h2
  · rw [if_neg c1] at h1
    rw [if_neg (by omega)]
    exact dsp_clsR _ (dsp_poolR _ _ h1)

/-! A class with the fields of its operations alone. -/
theorem pure_texts (x : Ins) : x.pure.texts = x.texts := by
  unfold Ins.texts Ins.pure
  dsimp only
  cases h3 : rowB x.o 3 <;> cases h4 : rowB x.o 4 <;> cases h5 : rowB x.o 5 <;> rfl
theorem pure_iB (l : List Tx) (x : Ins) : iB l x.pure = iB l x := by
  unfold iB
  rw [pure_texts]
  unfold Ins.pure
  dsimp only
  cases rowB x.o 1 <;> cases rowB x.o 2 <;> rfl

theorem pure_o (o : Int) (h : inR o = true) : ∀ a b c n d len loc, chkI (Ins.pure ⟨o, a, b, c, n, d⟩) len loc = chkI ⟨o, a, b, c, n, d⟩ len loc := by
  have h' : 1 ≤ o ∧ o ≤ 38 := by simpa [inR] using h
  have : o = 1 ∨ o = 2 ∨ o = 3 ∨ o = 4 ∨ o = 5 ∨ o = 6 ∨ o = 7 ∨ o = 8 ∨ o = 9 ∨ o = 10 ∨ o = 11 ∨ o = 12 ∨ o = 13 ∨ o = 14 ∨ o = 15 ∨ o = 16 ∨ o = 17 ∨ o = 18 ∨ o = 19 ∨ o = 20 ∨ o = 21 ∨ o = 22 ∨ o = 23 ∨ o = 24 ∨ o = 25 ∨ o = 26 ∨ o = 27 ∨ o = 28 ∨ o = 29 ∨ o = 30 ∨ o = 31 ∨ o = 32 ∨ o = 33 ∨ o = 34 ∨ o = 35 ∨ o = 36 ∨ o = 37 ∨ o = 38 := by omega
  rcases this with rfl | rfl | rfl | rfl | rfl | rfl | rfl | rfl | rfl | rfl | rfl | rfl | rfl | rfl | rfl | rfl | rfl | rfl | rfl | rfl | rfl | rfl | rfl | rfl | rfl | rfl | rfl | rfl | rfl | rfl | rfl | rfl | rfl | rfl | rfl | rfl | rfl | rfl <;> (intro a b c n d len loc; kernel_rfl)

theorem flatMap_map' {α β γ : Type} (f : α → β) (g : β → List γ) : ∀ l : List α, (l.map f).flatMap g = l.flatMap fun a => g (f a)
  | [] => rfl
  | a :: r => by rw [List.map_cons, List.flatMap_cons, List.flatMap_cons, flatMap_map' f g r]
theorem pure_mT (m : Mth) : mT m.pure = mT m := by
  unfold mT Mth.pure
  dsimp only
  rw [flatMap_map']
  simp only [pure_texts]
theorem pure_mB (l : List Tx) (m : Mth) : mB l m.pure = mB l m := by
  unfold mB Mth.pure
  dsimp only
  rw [flatMap_map']
  simp only [pure_iB, List.length_map]
theorem pure_ctexts (c : Cls) : c.pure.texts = c.texts := by
  unfold Cls.texts Cls.pure
  dsimp only
  rw [flatMap_map']
  simp only [pure_mT]
theorem pure_pool (c : Cls) : c.pure.pool = c.pool := by unfold Cls.pool; rw [pure_ctexts]
theorem pure_bytes (c : Cls) : c.pure.bytes = c.bytes := by
  unfold Cls.bytes
  rw [pure_pool]
  generalize c.pool = l
  unfold Cls.bytesL Cls.pure
  dsimp only
  rw [flatMap_map']
  simp only [pure_mB, List.length_map]

theorem pure_chkI (x : Ins) (len loc : Int) (h : inR x.o = true) : chkI x.pure len loc = chkI x len loc := by
  obtain ⟨o, a, b, c, n, d⟩ := x
  exact pure_o o h a b c n d len loc
theorem firstE_map {α : Type} (φ : α → α) (f g : α → Int) : ∀ l : List α, (∀ x ∈ l, g (φ x) = f x) → firstE g (l.map φ) = firstE f l
  | [], _ => rfl
  | a :: r, h => by
    rw [List.map_cons, firstE, firstE, h a (by simp), firstE_map φ f g r fun x hx => h x (by simp [hx])]
theorem pure_errC (m : Mth) (h : ∀ x ∈ m.code, inR x.o = true) : errC m.pure = errC m := by
  unfold errC Mth.pure
  dsimp only
  rw [List.length_map]
  exact firstE_map _ _ _ _ fun x hx => pure_chkI x _ _ (h x hx)
theorem pure_errM (m : Mth) (h : ∀ x ∈ m.code, inR x.o = true) : errM m.pure = errM m := by
  have e := pure_errC m h
  unfold errM
  rw [e]
  unfold nmdM limM bareM leastM errH Mth.pure
  dsimp only
  rw [List.length_map]
theorem pure_err (c : Cls) (h : ∀ m ∈ c.ms, ∀ x ∈ m.code, inR x.o = true) : c.pure.err = c.err := by
  unfold Cls.err
  rw [pure_pool]
  unfold Cls.pure
  dsimp only
  rw [firstE_map Mth.pure errM errM c.ms fun m hm => pure_errM m (h m hm), List.length_map]

/-! How many bytes a class has that is not too big. -/
theorem flt_append (xs ys : List Tx) : (xs ++ ys).flatten.length = xs.flatten.length + ys.flatten.length := by
  rw [List.flatten_append, List.length_append]
theorem add1_flat (l : List Tx) (s : Tx) : (add1 l s).flatten.length ≤ l.flatten.length + s.length := by
  unfold add1; cases l.contains s <;> simp
theorem addL_flat : ∀ (xs l : List Tx), (addL l xs).flatten.length ≤ l.flatten.length + xs.flatten.length
  | [], l => by simp [addL]
  | x :: r, l => by
    have h1 := addL_flat r (add1 l x)
    have h2 := add1_flat l x
    have e : addL l (x :: r) = addL (add1 l x) r := rfl
    rw [e, List.flatten_cons, List.length_append]
    omega
theorem flat_flat {α : Type} (f : α → List Tx) (g : α → Int) : ∀ (l : List α), (∀ a ∈ l, ((f a).flatten.length : Int) ≤ g a) → ((l.flatMap f).flatten.length : Int) ≤ (l.map g).sum
  | [], _ => by simp
  | a :: r, h => by
    have := flat_flat f g r fun b hb => h b (by simp [hb])
    have := h a (by simp)
    rw [List.flatMap_cons, flt_append, List.map_cons, List.sum_cons]; omega
theorem tB_flat : ∀ l : List Tx, (l.flatMap tB).length = 2 * l.length + l.flatten.length
  | [] => rfl
  | a :: r => by
    rw [List.flatMap_cons, List.length_append, tB_flat r, List.flatten_cons, List.length_append, List.length_cons]
    simp [tB, beN_len]; omega
theorem flat_lens : ∀ l : List Tx, (l.flatten.length : Int) = (l.map fun s => (s.length : Int)).sum
  | [] => rfl
  | a :: r => by
    rw [List.flatten_cons, List.length_append, List.map_cons, List.sum_cons, ← flat_lens r]; omega

theorem Ins.texts_flat (x : Ins) (h : x.size ≤ 12000) : (x.texts.flatten.length : Int) ≤ x.size := by
  have e := x.size_eq h
  unfold Ins.texts
  cases rowB x.o 3 <;> cases rowB x.o 4 <;> cases rowB x.o 5 <;> simp <;> omega
theorem Mth.texts_flat (m : Mth) (h : m.size ≤ 12000) : ((mT m).flatten.length : Int) ≤ m.size := by
  have e := m.size_eq h
  have p1 := sum_map_nonneg Ins.size Ins.size_pos m.code
  have p2 := sum_map_nonneg (fun x : Hnd => (x.c.length : Int)) (by simp) m.hs
  have h1 : ∀ x ∈ m.code, x.size ≤ 12000 := fun x hx => by
    have := le_sum_map Ins.size Ins.size_pos m.code x hx; omega
  have h2 := flat_flat Ins.texts Ins.size m.code fun x hx => x.texts_flat (h1 x hx)
  have h3 := flat_lens (m.hs.map (·.c))
  rw [List.map_map] at h3
  have h3' : ((fun s : Tx => (s.length : Int)) ∘ fun x : Hnd => x.c) = fun x : Hnd => (x.c.length : Int) := rfl
  rw [h3'] at h3
  rw [mT, flt_append, flt_append]
  have e2 : ([m.n, m.d] : List Tx).flatten.length = m.n.length + m.d.length := by simp
  omega
theorem Mth.bytes_le (m : Mth) (l : List Tx) (h : m.size ≤ 12000) : ((mB l m).length : Int) ≤ 15 * m.size := by
  have e := m.size_eq h
  have p1 := sum_map_nonneg Ins.size Ins.size_pos m.code
  have p2 := sum_map_nonneg (fun x : Hnd => (x.c.length : Int)) (by simp) m.hs
  have h1 := flatMap_len (iB l) 15 m.code fun x _ => iB_len l x
  have h2 := flatMap_len (hB l) 8 m.hs fun x _ => by rw [hB_len]; omega
  unfold mB
  simp only [List.length_append, beN_len, pl_len]
  omega
theorem Cls.bytes_le (c : Cls) (h : c.size ≤ 12000) (ho : c.Ok) : c.bytes.length ≤ 262144 := by
  have e := c.size_eq h
  have p1 := sum_map_nonneg (fun s : List UInt8 => 1 + (s.length : Int)) (fun a => by omega) c.im
  have p2 := sum_map_nonneg (fun f : Fld => 1 + ((f.n.length : Int) + f.d.length)) (fun a => by omega) c.fs
  have p3 := sum_map_nonneg Mth.size Mth.size_pos c.ms
  have hm : ∀ m ∈ c.ms, m.size ≤ 12000 := fun m hx => by
    have := le_sum_map Mth.size Mth.size_pos c.ms m hx; omega
  have t1 := flat_flat mT Mth.size c.ms fun m hx => m.texts_flat (hm m hx)
  have t2 := flat_flat fT (fun f : Fld => 1 + ((f.n.length : Int) + f.d.length)) c.fs fun f _ => by simp [fT]; omega
  have t3 := flat_flat (fun s : Tx => [s]) (fun s : List UInt8 => 1 + (s.length : Int)) c.im fun s _ => by simp; omega
  have t3' : c.im.flatMap (fun s : Tx => [s]) = c.im := by simp
  rw [t3'] at t3
  have t0 : c.texts.flatten.length = c.n.length + c.s.length + (c.im.flatten.length + ((c.fs.flatMap fT).flatten.length + (c.ms.flatMap mT).flatten.length)) := by
    rw [Cls.texts, flt_append, flt_append, flt_append]; simp
  have tp := addL_flat c.texts []
  have hp : addL [] c.texts = c.pool := rfl
  rw [hp] at tp
  have q1 := tB_flat c.pool
  have q2 := flatMap_len (pl c.pool) 2 c.im fun a _ => by rw [pl_len]; omega
  have q3 := flatMap_len (fB c.pool) 5 c.fs fun a _ => by rw [fB_len]; omega
  have q4 := flatMap_len' (mB c.pool) (fun m => 15 * m.size) c.ms fun m hx => m.bytes_le c.pool (hm m hx)
  have q5 := sum_mul Mth.size 15 c.ms
  have r1 := ho.pool
  have r2 := ho.im
  have r3 := ho.fs
  have e0 : ([] : List Tx).flatten.length = 0 := rfl
  unfold Cls.bytes Cls.bytesL
  simp only [List.length_append, beN_len, pl_len, List.length_cons, List.length_nil]
  omega

/-! What a reader that is still alive has read: how big it is, and that its bytes were there. -/
def Alive (S : RS) : Prop := S.fl = false ∧ S.e = 0
/-- What f reads of bytes that were there: v, of k bytes. -/
def Sp {α : Type} (l : List Tx) (f : RS → α × RS) (Φ : α → Nat → Prop) : Prop :=
  ∀ S : RS, S.pool = l → ((f S).2.pool = l ∧ (f S).2.b = S.b) ∧ (Alive (f S).2 → Alive S ∧ ∃ k, (f S).2.at_ = S.at_ + k ∧ Φ (f S).1 k)

theorem Alive.met {S : RS} (h : Alive S.met) : Alive S := by
  unfold RS.met at h
  split at h
  · exact absurd h.2 (by simp)
  · exact h
theorem Alive.met_eq {S : RS} (h : Alive S.met) : S.met = S := by
  unfold RS.met; rw [if_neg (fun hc => by rw [h.met.1] at hc; cases hc.1)]
theorem Alive.fails {S : RS} {e : Int} (h : Alive (S.fails e)) : e = 0 ∧ Alive S ∧ (S.fails e).at_ = S.at_ := by
  unfold RS.fails at h ⊢
  split at h
  · rename_i hc
    have hm : Alive S.met := ⟨h.1, hc⟩
    rw [if_pos hc]
    exact ⟨h.2, hm.met, show S.met.at_ = _ from congrArg RS.at_ hm.met_eq⟩
  · rename_i hc
    exact absurd h.2 hc
theorem Alive.okS {S : RS} (h : Alive S.okS.2) : Alive S ∧ S.okS.2.at_ = S.at_ := (Alive.fails h).2
theorem Alive.ok1 {S : RS} (h : Alive S.okS.2) : S.okS.1 = true := by
  have := h.2
  show ((S.fails 0).e == 0) = true
  rw [show (S.fails 0).e = 0 from this]; rfl
theorem alive_of_ok1 {S : RS} (h : S.okS.1 = true) : Alive S := by
  have h0 : (S.fails 0).e = 0 := by simpa [RS.okS] using h
  unfold RS.fails RS.met at h0
  by_cases c : S.fl = true ∧ S.e = 0
  · rw [if_pos c] at h0; simp at h0
  · rw [if_neg c] at h0
    by_cases d : S.e = 0
    · refine ⟨?_, d⟩
      cases hf : S.fl
      · rfl
      · exact absurd ⟨hf, d⟩ c
    · rw [if_neg d] at h0; exact absurd h0 d

theorem sp_mono {α : Type} {l : List Tx} {f : RS → α × RS} {Φ Ψ : α → Nat → Prop} (h : Sp l f Φ) (hm : ∀ a k, Φ a k → Ψ a k) : Sp l f Ψ := fun S hS => by
  obtain ⟨q1, q2⟩ := h S hS
  refine ⟨q1, fun ha => ?_⟩
  obtain ⟨r1, k, r2, r3⟩ := q2 ha
  exact ⟨r1, k, r2, hm _ _ r3⟩
theorem sp_seq {α β : Type} {l : List Tx} {f : RS → α × RS} {g : α → RS → β × RS} {Φ : α → Nat → Prop} {Ψ : β → Nat → Prop} (h : Sp l f Φ) (hg : ∀ a, Sp l (g a) (fun b k => ∀ j, Φ a j → Ψ b (j + k))) : Sp l (seqR f g) Ψ := fun S hS => by
  obtain ⟨q1, q2⟩ := h S hS
  obtain ⟨t1, t2⟩ := hg (f S).1 (f S).2 q1.1
  refine ⟨⟨t1.1, t1.2.trans q1.2⟩, fun ha => ?_⟩
  obtain ⟨r1, k, r2, r3⟩ := t2 ha
  obtain ⟨s1, j, s2, s3⟩ := q2 r1
  exact ⟨s1, j + k, by show (g (f S).1 (f S).2).2.at_ = _; rw [r2, s2]; omega, r3 j s3⟩
theorem sp_ret {α : Type} {l : List Tx} {v : α} {Φ : α → Nat → Prop} (h : Φ v 0) : Sp l (retR v) Φ := fun S hS => ⟨⟨hS, rfl⟩, fun ha => ⟨ha, 0, rfl, h⟩⟩

theorem sp_num (l : List Tx) (n : Nat) : Sp l (fun S => S.num n) (fun v k => v < 256 ^ n ∧ k = n) := fun S hS => by
  refine ⟨⟨(take_rest S n S.at_).1.trans hS, (take_rest S n S.at_).2.2.2⟩, fun ha => ?_⟩
  have ha' : Alive (S.take n S.at_).2 := ha
  show Alive S ∧ ∃ k, (S.take n S.at_).2.at_ = S.at_ + k ∧ numF (S.take n S.at_).1.1 < 256 ^ n ∧ k = n
  unfold RS.take at ha' ⊢
  cases hf : S.fl
  · rw [hf] at ha'
    simp only [Bool.false_eq_true, if_false] at ha' ⊢
    split at ha'
    · cases ha'.1
    · rename_i hc
      rw [if_neg hc]
      refine ⟨⟨hf, ha'.2⟩, n, rfl, ?_, rfl⟩
      refine Nat.lt_of_lt_of_le (numF_lt _) (Nat.pow_le_pow_right (by omega) ?_)
      simp; omega
  · rw [hf] at ha'
    simp only [if_true] at ha'
    have := ha'.1; rw [hf] at this; cases this
theorem sp_num1 (l : List Tx) : Sp l (fun S => S.num 1) (fun v k => v ≤ 255 ∧ k = 1) := sp_mono (sp_num l 1) fun a k h => ⟨by omega, h.2⟩
theorem sp_num2 (l : List Tx) : Sp l (fun S => S.num 2) (fun v k => v ≤ 65535 ∧ k = 2) := sp_mono (sp_num l 2) fun a k h => ⟨by omega, h.2⟩
theorem sp_i4 (l : List Tx) : Sp l RS.i4 (fun v k => (-2147483648 ≤ v ∧ v ≤ 2147483647) ∧ k = 4) := fun S hS => by
  obtain ⟨q1, q2⟩ := sp_num l 4 S hS
  refine ⟨q1, fun ha => ?_⟩
  obtain ⟨r1, k, r2, r3, r4⟩ := q2 ha
  exact ⟨r1, k, r2, i32_range _, r4⟩
theorem sp_flag (l : List Tx) : Sp l RS.flag (fun _ k => k = 1) := fun S hS => by
  obtain ⟨q1, q2⟩ := sp_num l 1 S hS
  unfold RS.flag
  dsimp only at q1 q2 ⊢
  split
  · refine ⟨⟨(fails_rest _ 3).1.trans q1.1, (fails_rest _ 3).2.trans q1.2⟩, fun ha => ?_⟩
    exact absurd ha.fails.1 (by decide)
  · refine ⟨q1, fun ha => ?_⟩
    obtain ⟨r1, k, r2, r3, r4⟩ := q2 ha
    exact ⟨r1, k, r2, r4⟩
theorem sp_many (l : List Tx) : Sp l RS.many (fun v k => v ≤ 65535 ∧ k = 2) := fun S hS => by
  obtain ⟨q1, q2⟩ := sp_num2 l S hS
  unfold RS.many
  dsimp only at q1 q2 ⊢
  refine ⟨⟨(okS_rest _).1.trans q1.1, (okS_rest _).2.trans q1.2⟩, fun ha => ?_⟩
  obtain ⟨r1, k, r2, r3, r4⟩ := q2 ha.okS.1
  refine ⟨r1, k, ha.okS.2.trans r2, ?_, r4⟩
  rw [ha.ok1]; exact r3
theorem sp_text {l : List Tx} (hl : ∀ t ∈ l, t.length ≤ 65535) : Sp l RS.text (fun v k => v.length ≤ 65535 ∧ k = 2) := fun S hS => by
  obtain ⟨q1, q2⟩ := sp_num2 l S hS
  unfold RS.text
  dsimp only at q1 q2 ⊢
  have p1 := And.intro ((okS_rest (S.num 2).2).1.trans q1.1) ((okS_rest (S.num 2).2).2.trans q1.2)
  by_cases c : (S.num 2).2.okS.1 = false
  · rw [if_pos c]
    refine ⟨p1, fun ha => ?_⟩
    rw [ha.ok1] at c; cases c
  · rw [if_neg c]
    split
    · refine ⟨⟨(fails_rest _ 4).1.trans p1.1, (fails_rest _ 4).2.trans p1.2⟩, fun ha => ?_⟩
      exact absurd ha.fails.1 (by decide)
    · rename_i hc
      refine ⟨p1, fun ha => ?_⟩
      obtain ⟨r1, k, r2, r3, r4⟩ := q2 ha.okS.1
      refine ⟨r1, k, ha.okS.2.trans r2, ?_, r4⟩
      rw [p1.1] at hc ⊢
      dsimp only
      rw [List.getD_eq_getElem?_getD, List.getElem?_eq_getElem (by omega)]
      exact hl _ (List.getElem_mem _)

theorem sp_rep {α : Type} {l : List Tx} {f : RS → α × RS} {P : α → Prop} {c : α → Nat} (h : Sp l f (fun a k => P a ∧ c a ≤ k)) : ∀ n, Sp l (RS.rep f n) (fun xs k => (∀ x ∈ xs, P x) ∧ xs.length ≤ n ∧ (xs.map c).sum ≤ k)
  | 0 => fun S hS => ⟨⟨hS, rfl⟩, fun ha => ⟨ha, 0, rfl, by simp [RS.rep], by simp [RS.rep], by simp [RS.rep]⟩⟩
  | n + 1 => fun S hS => by
    have p1 := And.intro ((okS_rest S).1.trans hS) (okS_rest S).2
    unfold RS.rep
    cases c1 : S.okS.1
    · simp only [cond_false]
      refine ⟨p1, fun ha => ?_⟩
      rw [ha.ok1] at c1; cases c1
    · simp only [cond_true]
      obtain ⟨q1, q2⟩ := h S.okS.2 p1.1
      obtain ⟨t1, t2⟩ := sp_rep h n (f S.okS.2).2 q1.1
      refine ⟨⟨t1.1, t1.2.trans (q1.2.trans p1.2)⟩, fun ha => ?_⟩
      obtain ⟨r1, k, r2, r3, r4, r5⟩ := t2 ha
      obtain ⟨s1, j, s2, s3, s4⟩ := q2 r1
      refine ⟨s1.okS.1, j + k, by rw [r2, s2, s1.okS.2]; omega, ?_, ?_, ?_⟩
      · intro x hx
        rcases List.mem_cons.1 hx with rfl | hx
        · exact s3
        · exact r3 x hx
      · simp only [List.length_cons]; omega
      · simp only [List.map_cons, List.sum_cons]; omega

theorem sp_op (l : List Tx) : Sp l RS.opR (fun v k => v ≤ 255 ∧ k = 1) := fun S hS => by
  obtain ⟨q1, q2⟩ := sp_num1 l S hS
  unfold RS.opR RS.insO
  dsimp only at q1 q2 ⊢
  have p1 := And.intro ((okS_rest (S.num 1).2).1.trans q1.1) ((okS_rest (S.num 1).2).2.trans q1.2)
  split
  · refine ⟨⟨(fails_rest _ 3).1.trans p1.1, (fails_rest _ 3).2.trans p1.2⟩, fun ha => ?_⟩
    exact absurd ha.fails.1 (by decide)
  · refine ⟨p1, fun ha => ?_⟩
    obtain ⟨r1, k, r2, r3⟩ := q2 ha.okS.1
    exact ⟨r1, k, ha.okS.2.trans r2, r3⟩
theorem sp_insA (l : List Tx) (o : Nat) : Sp l (fun S => S.insA o) (fun v k => -2147483648 ≤ v ∧ v ≤ 2147483647) := by
  unfold RS.insA
  cases rowB o 1
  · exact sp_ret ⟨by decide, by decide⟩
  · exact sp_mono (sp_i4 l) fun a k h => h.1
theorem sp_insB (l : List Tx) (o : Nat) : Sp l (fun S => S.insB o) (fun v k => -2147483648 ≤ v ∧ v ≤ 2147483647) := by
  unfold RS.insB
  cases rowB o 2
  · exact sp_ret ⟨by decide, by decide⟩
  · exact sp_mono (sp_i4 l) fun a k h => h.1
theorem sp_insT {l : List Tx} (hl : ∀ t ∈ l, t.length ≤ 65535) (o q : Nat) : Sp l (fun S => S.insT o q) (fun v k => v.length ≤ 65535 ∧ k = 2 * (bif rowB o q then 1 else 0)) := by
  unfold RS.insT
  cases rowB o q
  · exact sp_ret ⟨by decide, rfl⟩
  · exact sp_text hl

/-- How big an instruction is that was read. -/
structure Ins.Fit (x : Ins) : Prop where
  (wf : x.Wf) (c : x.c.length ≤ 65535) (n : x.n.length ≤ 65535) (d : x.d.length ≤ 65535)
theorem int_wf {z : Int} (h1 : -9223372036854775808 ≤ z) (h2 : z ≤ 9223372036854775807) : (Lit.int .i64 z).wf = true := by
  have e1 : IntKind.i64.min = -9223372036854775808 := rfl
  have e2 : IntKind.i64.max = 9223372036854775807 := rfl
  simp [Lit.wf, e1, e2]
  omega
theorem sp_ins {l : List Tx} (hl : ∀ t ∈ l, t.length ≤ 65535) : Sp l RS.ins (fun x k => x.Fit ∧ 2 * x.texts.length ≤ k) := by
  rw [ins_seq]
  refine sp_seq (sp_op l) fun o => sp_seq (sp_insA l o) fun a => sp_seq (sp_insB l o) fun b => sp_seq (sp_insT hl o 3) fun c => sp_seq (sp_insT hl o 4) fun n => sp_seq (sp_insT hl o 5) fun d => sp_ret ?_
  intro j6 ⟨d1, d2⟩ j5 ⟨n1, n2⟩ j4 ⟨c1, c2⟩ j3 b1 j2 a1 j1 ⟨o1, o2⟩
  refine ⟨⟨⟨int_wf (by dsimp only; omega) (by dsimp only; omega), int_wf (by dsimp only; omega) (by dsimp only; omega), int_wf (by dsimp only; omega) (by dsimp only; omega)⟩, c1, n1, d1⟩, ?_⟩
  have e : (Ins.texts ⟨(o : Int), a, b, c, n, d⟩).length = (bif rowB o 3 then 1 else 0) + ((bif rowB o 4 then 1 else 0) + (bif rowB o 5 then 1 else 0)) := by
    unfold Ins.texts; dsimp only
    cases rowB o 3 <;> cases rowB o 4 <;> cases rowB o 5 <;> rfl
  omega

/-! How big a class is that was read: not bigger than its bytes. -/
structure Hnd.Fit (x : Hnd) : Prop where
  (wf : x.Wf) (c : x.c.length ≤ 65535)
theorem nat_wf {z : Nat} (h2 : z ≤ 65535) : (Lit.int .i64 (z : Int)).wf = true := int_wf (by omega) (by omega)
theorem sp_hnd {l : List Tx} (hl : ∀ t ∈ l, t.length ≤ 65535) : Sp l RS.hnd (fun x k => x.Fit ∧ 2 ≤ k) := by
  rw [hnd_seq]
  refine sp_seq (sp_num2 l) fun f => sp_seq (sp_num2 l) fun t => sp_seq (sp_num2 l) fun a => sp_seq (sp_text hl) fun c => sp_ret ?_
  intro j4 ⟨c1, c2⟩ j3 ⟨a1, a2⟩ j2 ⟨t1, t2⟩ j1 ⟨f1, f2⟩
  exact ⟨⟨⟨nat_wf f1, nat_wf t1, nat_wf a1⟩, c1⟩, by omega⟩
theorem sp_fld {l : List Tx} (hl : ∀ t ∈ l, t.length ≤ 65535) : Sp l RS.fld (fun x k => (x.n.length ≤ 65535 ∧ x.d.length ≤ 65535) ∧ 4 ≤ k) := by
  rw [fld_seq]
  refine sp_seq (sp_text hl) fun n => sp_seq (sp_text hl) fun d => sp_seq (sp_flag l) fun s => sp_ret ?_
  intro j3 _ j2 ⟨d1, d2⟩ j1 ⟨n1, n2⟩
  exact ⟨⟨n1, d1⟩, by omega⟩

theorem flat_len {α β : Type} (f : α → List β) : ∀ l : List α, (l.flatMap f).length = (l.map fun a => (f a).length).sum
  | [] => rfl
  | a :: r => by rw [List.flatMap_cons, List.length_append, List.map_cons, List.sum_cons, flat_len f r]
theorem nsum_mul {α : Type} (g : α → Nat) (k : Nat) : ∀ (l : List α), (l.map fun a => k * g a).sum = k * (l.map g).sum
  | [] => by simp
  | a :: r => by rw [List.map_cons, List.sum_cons, List.map_cons, List.sum_cons, nsum_mul g k r, Nat.mul_add]
theorem nsum_const {α : Type} (k : Nat) : ∀ (l : List α), (l.map fun _ => k).sum = k * l.length
  | [] => by simp
  | a :: r => by rw [List.map_cons, List.sum_cons, nsum_const k r, List.length_cons, Nat.mul_add]; omega

structure Mth.Fit (m : Mth) : Prop where
  (wf : m.Wf) (small : m.Small)
theorem maxLen_ge : 65535 ≤ maxLen := by decide
theorem mth_fit {m : Mth} (h1 : m.n.length ≤ 65535) (h2 : m.d.length ≤ 65535) (h3 : (Lit.int .i64 m.st).wf = true) (h4 : (Lit.int .i64 m.lo).wf = true) (h5 : ∀ x ∈ m.code, x.Fit) (h6 : m.code.length ≤ 65535) (h7 : ∀ x ∈ m.hs, x.Fit) (h8 : m.hs.length ≤ 65535) : m.Fit := by
  have hM := maxLen_ge
  exact ⟨⟨h3, h4, by omega, by omega, fun x hx => (h5 x hx).wf, fun x hx => (h7 x hx).wf, by omega, by omega, fun x hx => ⟨Nat.le_trans (h5 x hx).c hM, Nat.le_trans (h5 x hx).n hM, Nat.le_trans (h5 x hx).d hM⟩, fun x hx => Nat.le_trans (h7 x hx).c hM⟩,
    ⟨h1, h2, h6, h8, fun x hx => ⟨(h5 x hx).c, (h5 x hx).n, (h5 x hx).d⟩, fun x hx => (h7 x hx).c⟩⟩

theorem sp_mth {l : List Tx} (hl : ∀ t ∈ l, t.length ≤ 65535) : Sp l RS.mth (fun m k => m.Fit ∧ 2 * (mT m).length ≤ k) := by
  rw [mth_seq]
  refine sp_seq (sp_text hl) fun n => sp_seq (sp_text hl) fun d => sp_seq (sp_flag l) fun s => sp_seq (sp_flag l) fun a => sp_seq (sp_num1 l) fun st => sp_seq (sp_num1 l) fun lo => ?_
  unfold mthC
  refine sp_seq (sp_many l) fun q => sp_seq (sp_rep (sp_ins hl) q) fun code => sp_seq (sp_many l) fun r => sp_seq (sp_rep (sp_hnd hl) r) fun hs => sp_ret ?_
  intro k4 ⟨z1, z2, z3⟩ k3 ⟨y1, y2⟩ k2 ⟨x1, x2, x3⟩ k1 ⟨w1, w2⟩ j6 ⟨l1, l2⟩ j5 ⟨s1, s2⟩ j4 _ j3 _ j2 ⟨d1, d2⟩ j1 ⟨n1, n2⟩
  refine ⟨mth_fit n1 d1 (nat_wf (by omega)) (nat_wf (by omega)) x1 (by dsimp only; omega) z1 (by dsimp only; omega), ?_⟩
  have e1 := flat_len Ins.texts code
  have e2 := nsum_mul (fun x : Ins => x.texts.length) 2 code
  have e3 := nsum_const (α := Hnd) 2 hs
  simp only [mT, List.length_append, List.length_cons, List.length_nil, List.length_map]
  omega

structure Cls.Fit (c : Cls) : Prop where
  (wf : c.Wf) (small : c.Small)
theorem sp_cls {l : List Tx} (hl : ∀ t ∈ l, t.length ≤ 65535) : Sp l clsR (fun c k => k ≤ 1000000 → c.Fit) := by
  have hM := maxLen_ge
  unfold clsR
  refine sp_seq (sp_text hl) fun n => sp_seq (sp_text hl) fun s => sp_seq (sp_flag l) fun i => sp_seq (sp_flag l) fun a => ?_
  unfold clsI
  have hT : Sp l RS.text (fun v k => v.length ≤ 65535 ∧ 2 ≤ k) := sp_mono (sp_text hl) fun a k h => ⟨h.1, by omega⟩
  refine sp_seq (sp_many l) fun q => sp_seq (sp_rep hT q) fun im => sp_seq (sp_many l) fun r => sp_seq (sp_rep (sp_fld hl) r) fun fs => sp_seq (sp_many l) fun t => sp_seq (sp_rep (sp_mth hl) t) fun ms => sp_ret ?_
  intro k6 ⟨z1, z2, z3⟩ k5 ⟨y1, y2⟩ k4 ⟨x1, x2, x3⟩ k3 ⟨w1, w2⟩ k2 ⟨v1, v2, v3⟩ k1 ⟨u1, u2⟩ j4 _ j3 _ j2 ⟨s1, s2⟩ j1 ⟨n1, n2⟩ hk
  have e1 := flat_len fT fs
  have e1' : (fs.map fun f => (fT f).length) = fs.map fun _ => 2 := rfl
  have e2 := nsum_const (α := Fld) 2 fs
  have e2' := nsum_const (α := Fld) 4 fs
  have e3 := nsum_const (α := Tx) 2 im
  have e4 := flat_len mT ms
  have e5 := nsum_mul (fun m : Mth => (mT m).length) 2 ms
  rw [e1'] at e1
  refine ⟨⟨by dsimp only; omega, by dsimp only; omega, by dsimp only; omega, fun m hm => (z1 m hm).wf, by dsimp only; omega, by dsimp only; omega, fun x hx => Nat.le_trans (v1 x hx) hM, fun x hx => ⟨Nat.le_trans (x1 x hx).1 hM, Nat.le_trans (x1 x hx).2 hM⟩⟩,
    ⟨n1, s1, by dsimp only; omega, by dsimp only; omega, by dsimp only; omega, v1, x1, fun m hm => (z1 m hm).small, ?_⟩⟩
  simp only [Cls.texts, List.length_append, List.length_cons, List.length_nil]
  omega

theorem addT_at (S : RS) : Alive S.addT → Alive S := fun h => by
  have h' : Alive S.rtext.2 := h
  obtain ⟨q1, q2⟩ := sp_num S.pool 2 S rfl
  have h2 : Alive (S.num 2).2 := by
    unfold RS.rtext RS.take at h'
    dsimp only at h'
    split at h'
    · rename_i hc; have := h'.1; rw [hc] at this; cases this
    · rename_i hc
      split at h'
      · cases h'.1
      · exact ⟨by simpa using hc, h'.2⟩
  exact (q2 h2).1
theorem rtext_len (S : RS) : S.rtext.1.length ≤ 65535 := by
  have h0 : (S.num 2).1 < 256 ^ 2 := by
    refine Nat.lt_of_lt_of_le (numF_lt _) (Nat.pow_le_pow_right (by omega) ?_)
    unfold RS.take
    split
    · simp
    · split
      · simp
      · simp; omega
  unfold RS.rtext RS.take
  dsimp only
  split
  · simp
  · split
    · simp
    · simp; omega
theorem poolR_le : ∀ (n : Nat) (S : RS), (∀ t ∈ S.pool, t.length ≤ 65535) → ∀ t ∈ (RS.poolR n S).pool, t.length ≤ 65535
  | 0, _, h => h
  | n + 1, S, h => by
    have hr := (okS_rest S).1
    unfold RS.poolR
    cases S.okS.1
    · rw [cond_false, hr]; exact h
    · rw [cond_true]
      refine poolR_le n _ fun t ht => ?_
      rw [RS.addT, hr] at ht
      rcases List.mem_append.1 ht with ht | ht
      · exact h t ht
      · rw [List.mem_singleton.1 ht]; exact rtext_len _

theorem magic1_b (S : RS) (m : Nat) : (S.magic1 m).b = S.b := by
  have a := (take_rest S 1 S.at_).2.2.2
  have b := (okS_rest (S.num 1).2).2
  unfold RS.magic1
  split
  · exact (fails_rest _ 3).2.trans (b.trans a)
  · exact b.trans a
theorem magic_b (S : RS) : S.magic.b = S.b := by
  unfold RS.magic
  rw [magic1_b, magic1_b, magic1_b, magic1_b]
theorem many_b (S : RS) : S.many.2.b = S.b := (okS_rest (S.num 2).2).2.trans (take_rest S 2 S.at_).2.2.2
theorem poolR_b : ∀ (n : Nat) (S : RS), (RS.poolR n S).b = S.b
  | 0, _ => rfl
  | n + 1, S => by
    have hr := (okS_rest S).2
    unfold RS.poolR
    cases S.okS.1
    · exact hr
    · rw [cond_true, poolR_b n]
      exact (rtext_rest S.okS.2).2.2.2.trans hr

theorem dec_fit (b : List UInt8) (hb : b.length ≤ 1000000) (hok : (decR b).cls.2.okS.1 = true) : (decR b).cls.1.Fit := by
  have hA := alive_of_ok1 hok
  have k0 : (decR b).Ok := ⟨hb, Nat.zero_le _, by simp [decR], Nat.zero_le _, .inl rfl⟩
  have k1 := (RS.cls_ok k0 (by simp [decR])).at_
  rw [cls_eq] at hA k1 ⊢
  obtain ⟨q1, q2⟩ := sp_cls (l := (RS.poolR (decR b).magic.many.1 (decR b).magic.many.2).pool) (poolR_le _ _ fun t ht => by
    rw [many_pool, magic_pool] at ht; cases ht) _ rfl
  obtain ⟨r1, k, r2, r3⟩ := q2 hA
  have hb' := q1.2
  rw [poolR_b, many_b, magic_b] at hb'
  rw [hb'] at k1
  have hbb : (decR b).b = b := rfl
  rw [hbb] at k1
  exact r3 (by omega)

/-! What Decode answers: of a class's bytes, of the first of them, of any. -/
theorem DS.okE {T : RS} (h : DS T) : T.okS.2.e = 2 := by
  have hm := h.met
  unfold RS.okS RS.fails
  dsimp only
  rw [if_neg (by rw [hm]; decide), hm]

theorem decR_ok {b : List UInt8} (hb : b.length ≤ 262144) : (decR b).cls.2.okS.2.Ok := by
  have k0 : (decR b).Ok := ⟨by show b.length ≤ _; omega, Nat.zero_le _, by simp [decR], Nat.zero_le _, .inl rfl⟩
  exact RS.okS_ok (RS.cls_ok k0 (by simp [decR]))
theorem decR_b (b : List UInt8) : (decR b).cls.2.okS.2.b = b := by
  rw [(okS_rest _).2, cls_eq]
  obtain ⟨q1, _⟩ := sp_cls (l := (RS.poolR (decR b).magic.many.1 (decR b).magic.many.2).pool) (poolR_le _ _ fun t ht => by
    rw [many_pool, magic_pool] at ht; cases ht) _ rfl
  have hb' := q1.2
  rw [poolR_b, many_b, magic_b] at hb'
  exact hb'

theorem read_full (c : Cls) (hs : c.Small) (ho : c.Ok2) (b : List UInt8) (hb : b <+: c.bytes) (hl : c.bytes.length ≤ b.length) : (decR b).cls.1 = c.pure ∧ At (decR b).cls.2 b c.bytes.length c.pool := by
  have := read_all c hs ho b hb
  rwa [if_pos hl] at this
theorem read_part (c : Cls) (hs : c.Small) (ho : c.Ok2) (b : List UInt8) (hb : b <+: c.bytes) (hl : ¬ c.bytes.length ≤ b.length) : DS (decR b).cls.2 := by
  have := read_all c hs ho b hb
  rwa [if_neg hl] at this
/-- A class's bytes are read as it. -/
theorem decV_bytes (c : Cls) (h : c.size ≤ 12000) (he : c.err = 0) : decV c.bytes = (c.pure, 0, 0) := by
  have ho := c.ok2_of he
  have hl := c.bytes_le h ho.ok
  have hp : c.bytes <+: c.bytes := List.prefix_refl _
  have hr := read_full c (c.small h) ho c.bytes hp (Nat.le_refl _)
  unfold decV
  have e1 := pure_err c ho.ins
  have e2 := pure_bytes c
  have hk := hr.2.okS.1
  have h1 := hr.1
  generalize (decR c.bytes).cls.1 = K at *
  generalize (decR c.bytes).cls.2.okS.1 = ok at *
  subst h1 hk
  rw [if_neg (by omega), if_neg (by decide), e1, if_neg (by rw [he]; decide), e2, if_neg (fun hc => hc rfl)]

/-- The first of a class's bytes: they end too early. -/
theorem decV_take (c : Cls) (h : c.size ≤ 12000) (he : c.err = 0) (k : Nat) (hk : k < c.bytes.length) : ∃ at_ : Nat, decV (c.bytes.take k) = (zeroC, 2, (at_ : Int)) ∧ at_ ≤ k := by
  have ho := c.ok2_of he
  have hl := c.bytes_le h ho.ok
  have hkl : (c.bytes.take k).length = k := by rw [List.length_take]; omega
  have hr := read_part c (c.small h) ho (c.bytes.take k) (List.take_prefix _ _) (by omega)
  have h1 := (decR_ok (b := c.bytes.take k) (by omega)).pl
  rw [decR_b, hkl] at h1
  refine ⟨_, ?_, h1⟩
  unfold decV
  rw [if_neg (by omega), hr.okS.1, if_pos rfl, hr.okE]

/-! Any bytes. -/
def ErrR (e : Int) : Prop := e = 0 ∨ (2 ≤ e ∧ e ≤ 7)
theorem ErrR.cond {b : Bool} {x y : Int} (h1 : ErrR x) (h2 : ErrR y) : ErrR (bif b then x else y) := by
  cases b
  · exact h2
  · exact h1
theorem ErrR.first {α : Type} {f : α → Int} (h : ∀ x, ErrR (f x)) : ∀ l : List α, ErrR (firstE f l)
  | [] => .inl rfl
  | x :: r => ErrR.cond (ErrR.first h r) (h x)
theorem er0 : ErrR 0 := .inl rfl
theorem er3 : ErrR 3 := .inr ⟨by decide, by decide⟩
theorem er4 : ErrR 4 := .inr ⟨by decide, by decide⟩
theorem er5 : ErrR 5 := .inr ⟨by decide, by decide⟩
theorem er6 : ErrR 6 := .inr ⟨by decide, by decide⟩
theorem er7 : ErrR 7 := .inr ⟨by decide, by decide⟩
theorem hdl_range (h : Hnd) (len : Int) : ErrR (hdl h len) := .cond er4 (.cond er6 er0)
theorem chkI_range (x : Ins) (len loc : Int) : ErrR (chkI x len loc) := .cond er3 (.cond er5 (.cond er6 (.cond er4 er0)))
theorem errM_range (m : Mth) : ErrR (errM m) := .cond er6 (.cond er5 (.cond er7 (.cond er0 (.cond er4 (.cond (.first (fun h => hdl_range h _) _) (.first (fun x => chkI_range x _ _) _))))))
theorem err_range (c : Cls) : ErrR c.err := .cond er6 (.cond er5 (.cond er6 (.cond (.cond er5 er0) (.first errM_range _))))

/-- Any bytes are a class's, or none's. -/
theorem decV_any (b : List UInt8) (hb : b.length ≤ 262144) :
    (∃ x : Cls, decV b = (x, 0, 0) ∧ x.Wf ∧ x.Small ∧ x.err = 0 ∧ x.bytes = b) ∨ (∃ (e : Int) (at_ : Nat), decV b = (zeroC, e, (at_ : Int)) ∧ 2 ≤ e ∧ e ≤ 7 ∧ at_ ≤ b.length) := by
  have hk := decR_ok hb
  have hB := decR_b b
  have hf := dec_fit b (by omega)
  have hE : (decR b).cls.2.okS.1 = false → (decR b).cls.2.okS.2.e ≠ 0 := fun h => by
    have h' : ((decR b).cls.2.okS.2.e == 0) = false := h
    simpa using h'
  unfold decV
  rw [if_neg (by omega)]
  generalize (decR b).cls.1 = K at *
  generalize (decR b).cls.2.okS.1 = ok at *
  generalize (decR b).cls.2.okS.2 = S at *
  have h1 := hk.pl
  have h2 := hk.at_
  have h3 := hk.ee
  rw [hB] at h1 h2
  cases ok
  · have := hE rfl
    rw [if_pos rfl]
    exact .inr ⟨_, _, rfl, by omega, by omega, h1⟩
  · rw [if_neg (by decide)]
    have hF := hf rfl
    by_cases he : K.err = 0
    · rw [if_neg (fun hc => hc he)]
      by_cases hq : K.bytes = b
      · rw [if_neg (fun hc => hc hq)]
        exact .inl ⟨K, rfl, hF.wf, hF.small, he, hq⟩
      · rw [if_pos hq]
        exact .inr ⟨7, S.at_, rfl, by decide, by decide, h2⟩
    · rw [if_pos he]
      rcases err_range K with h | ⟨h, h'⟩
      · exact absurd h he
      · exact .inr ⟨K.err, 0, rfl, h, h', Nat.zero_le _⟩

theorem ev_Dec (b : List UInt8) (o : Bool) (hb : b.length ≤ 262144) :
    ∃ M, ev tab prim 10 [.list 1 (b.map byteV) o] [[], []] = some (.tup [(decV b).1.v, .int .i64 (decV b).2.1, .int .i64 (decV b).2.2], M) :=
  ev_Decode b o (by omega) fun _ h => ⟨(dec_fit b (by omega) h).wf, (dec_fit b (by omega) h).small⟩

end Go.Proofs.YtgmlanhhjmhmmaaGreat.Ev
