/- Plain law: an op's text is read as the op, by the program's road and by the reference's. -/
import Derived.Test.YtpmpofcokkgfdaaGreatDoorUa
namespace Go.Proofs.YtpmpofcokkgfdaaGreatDoor.Ev
open Go

/-- A line's op. -/
structure Sop where (k : Int) (a b : List UInt8) (n : Int) (l m : List Int)
def Sop.zero : Sop := ⟨0, [], [], 0, [], []⟩

/-- The kinds' words, and their fields. -/
def kwords : List (List UInt8 × List UInt8) :=
  [([], []), ([99, 108, 97, 115, 115], [104]), ([97, 110, 97, 108, 121, 115, 101], [97]), ([114, 117, 110], [97, 110, 108, 109]), ([112, 111, 105, 110, 116, 115], [97]),
   ([97, 108, 105, 97, 115], [97, 98]), ([99, 97, 108, 108, 101, 114, 115], [97]), ([99, 97, 108, 108, 101, 101, 115], [97]), ([119, 97, 121], [97]), ([114, 105, 110, 103, 115], []),
   ([99, 104, 97], [97]), ([114, 116, 97], [97]), ([115, 111, 117, 110, 100], [97, 110, 108, 109]), ([110, 101, 119], []), ([116, 104, 114, 111, 119, 115], [97]), ([119, 104, 111], [97])]
def kword (k : Int) : List UInt8 := (kwords.getD k.toNat ([], [])).1
def kfields (k : Int) : List UInt8 := (kwords.getD k.toNat ([], [])).2
def kindR (k : Int) : Bool := decide (1 ≤ k) && decide (k ≤ 15)

def hexB (b : UInt8) : Bool := (decide (48 ≤ b.toNat) && decide (b.toNat ≤ 57)) || (decide (97 ≤ b.toNat) && decide (b.toNat ≤ 102))
def hexT (s : List UInt8) : Bool := (s == [45]) || (!s.isEmpty && decide (s.length % 2 = 0) && s.all hexB)
def numsOk (l : List Int) : Bool := l.all int32
def numsT (l : List Int) : List UInt8 := if l.isEmpty then [45] else Lib.join (l.map Lib.itoa) [44]
def numsR (w : List UInt8) : List Int := if w = [45] then [] else (cutB 44 w).map fun s => (atoiV s).1
def numsF (w : List UInt8) : List Int := if w = [45] then [] else (cutB 44 w).map fun s => (numV (-2147483648) 2147483647 s).1

/-- A field's word, and may it be. -/
def Sop.word (o : Sop) (f : UInt8) : List UInt8 := if f = 104 then o.a else if f = 97 then o.a else if f = 98 then o.b else if f = 110 then Lib.itoa o.n else if f = 108 then numsT o.l else numsT o.m
def Sop.ok (o : Sop) (f : UInt8) : Bool := if f = 104 then hexT o.a else if f = 97 then plainT o.a else if f = 98 then plainT o.b else if f = 110 then decide (0 ≤ o.n) && decide (o.n ≤ 1000000) else if f = 108 then numsOk o.l else numsOk o.m
def Sop.words (o : Sop) : List (List UInt8) := kword o.k :: (kfields o.k).map o.word
def Sop.lineOk (o : Sop) : Bool := kindR o.k && (kfields o.k).all o.ok
def Sop.line (o : Sop) : List UInt8 := if o.lineOk then Lib.join o.words [32] else []

/-! ### Reading -/
def idxF (p : List UInt8 → Bool) : List (List UInt8) → Int → Int
  | [], _ => -1
  | w :: r, i => if p w then i else idxF p r (i + 1)
/-- The program's kind of a word: the first that has it. -/
def kindP (w : List UInt8) : Int := idxF (fun x => x == w) (kwords.map (·.1)) 0
def readF (f : UInt8) (w : List UInt8) (o : Sop) : Sop :=
  if f = 104 ∨ f = 97 then { o with a := w } else if f = 98 then { o with b := w } else if f = 110 then { o with n := (atoiV w).1 } else if f = 108 then { o with l := numsR w } else { o with m := numsR w }
def readAll : List UInt8 → List (List UInt8) → Sop → Sop
  | f :: fs, w :: ws, o => readAll fs ws (readF f w o)
  | _, _, o => o
def candP (s : List UInt8) : Sop := let k := kindP ((cutB 32 s).headD []); readAll (kfields k) ((cutB 32 s).drop 1) ⟨k, [], [], 0, [], []⟩
def sizeOk (s : List UInt8) : Bool := let k := kindP ((cutB 32 s).headD []); decide (1 ≤ k) && decide ((cutB 32 s).length = 1 + (kfields k).length)
/-- The program's reading. -/
def parseP (s : List UInt8) : Sop × Int := bif sizeOk s && ((candP s).line == s) then (candP s, 0) else (Sop.zero, 7)

/-- The reference's kind of a word: the last that has it. -/
def kindL (w : List UInt8) : Int := (List.range 16).foldl (fun (c : Int) (k : Nat) => if 1 ≤ k ∧ kword (k : Int) = w then (k : Int) else c) 0
def pad5 (l : List (List UInt8)) : List (List UInt8) := l ++ List.replicate (5 - l.length) []
def w5 (s : List UInt8) (k : Nat) : List UInt8 := (pad5 (cutB 32 s)).getD k []
def candF (s : List UInt8) : Sop :=
  let k := kindL (w5 s 0)
  if k = 9 ∨ k = 13 then ⟨k, [], [], 0, [], []⟩ else if k = 5 then ⟨k, w5 s 1, w5 s 2, 0, [], []⟩ else if k = 3 ∨ k = 12 then ⟨k, w5 s 1, [], (numV 0 1000000 (w5 s 2)).1, numsF (w5 s 3), numsF (w5 s 4)⟩ else ⟨k, w5 s 1, [], 0, [], []⟩
def parseF (s : List UInt8) : Sop × Int := bif ((candF s).line == s) && !s.isEmpty then (candF s, 0) else (Sop.zero, 7)

/-! ### The law -/
theorem hexT_no {s : List UInt8} (h : hexT s = true) : (32 : UInt8) ∉ s := by
  unfold hexT at h
  simp only [Bool.or_eq_true, beq_iff_eq, Bool.and_eq_true] at h
  rcases h with rfl | ⟨_, h⟩
  · decide
  · intro h2
    exact absurd (List.all_eq_true.1 h 32 h2) (by decide)
theorem plainT_no {s : List UInt8} (h : plainT s = true) : (32 : UInt8) ∉ s := by
  unfold plainT at h
  simp only [Bool.and_eq_true, Bool.not_eq_true'] at h
  intro h2
  have := List.any_eq_false.1 h.2 32 h2
  exact absurd rfl this
theorem join_no (c : UInt8) (hc : c ≠ 44) : ∀ ws : List (List UInt8), (∀ w ∈ ws, c ∉ w) → c ∉ Lib.join ws [44]
  | [], _ => by simp [Lib.join_nil]
  | [w], h => by rw [Lib.join_one]; exact h w (by simp)
  | w :: x :: r, h => by
    have ih := join_no c hc (x :: r) fun y hy => h y (by simp [hy])
    have e : Lib.join (w :: x :: r) [44] = w ++ 44 :: Lib.join (x :: r) [44] := by
      rw [Lib.join_cons, Lib.join_cons]; simp [Lib.joinTail]
    rw [e]
    simp only [List.mem_append, List.mem_cons, not_or]
    exact ⟨h w (by simp), hc, ih⟩
theorem numsT_no (l : List Int) (c : UInt8) (h1 : c ≠ 45) (h2 : isDig c = false) (h3 : c ≠ 44) : c ∉ numsT l := by
  unfold numsT
  split
  · simpa using h1
  · refine join_no c h3 _ fun w hw => ?_
    obtain ⟨n, _, rfl⟩ := List.mem_map.1 hw
    exact itoa_no n c h1 h2
theorem numsT_sign {l : List Int} (h : l ≠ []) : numsT l ≠ [45] := by
  unfold numsT
  cases l with
  | nil => exact absurd rfl h
  | cons n r =>
    show Lib.join ((n :: r).map Lib.itoa) [44] ≠ [45]
    rw [List.map_cons, Lib.join_cons]
    exact itoa_sign n _
theorem cut_numsT {l : List Int} (h : l ≠ []) : cutB 44 (numsT l) = l.map Lib.itoa := by
  unfold numsT
  have : l.isEmpty = false := by simpa using h
  rw [this]
  refine cutB_join 44 _ (by simpa using h) fun w hw => ?_
  obtain ⟨n, _, rfl⟩ := List.mem_map.1 hw
  exact itoa_no n 44 (by decide) (by decide)
theorem numsR_T {l : List Int} (h : numsOk l = true) : numsR (numsT l) = l := by
  by_cases h0 : l = []
  · subst h0; rfl
  · unfold numsR
    rw [if_neg (numsT_sign h0), cut_numsT h0, List.map_map]
    conv => rhs; rw [← List.map_id l]
    refine List.map_congr_left fun n hn => ?_
    show (atoiV (Lib.itoa n)).1 = n
    rw [atoiV_itoa (List.all_eq_true.1 h n hn)]
theorem numsF_T {l : List Int} (h : numsOk l = true) : numsF (numsT l) = l := by
  by_cases h0 : l = []
  · subst h0; rfl
  · unfold numsF
    rw [if_neg (numsT_sign h0), cut_numsT h0, List.map_map]
    conv => rhs; rw [← List.map_id l]
    refine List.map_congr_left fun n hn => ?_
    have h2 := List.all_eq_true.1 h n hn
    have h3 := int32_iff.1 h2
    show (numV (-2147483648) 2147483647 (Lib.itoa n)).1 = n
    rw [numV_itoa h2 h3.1 h3.2]

theorem kindR_nat {k : Int} (h : kindR k = true) : ∃ n : Nat, k = (n : Int) ∧ 1 ≤ n ∧ n < 16 := by
  unfold kindR at h
  simp only [Bool.and_eq_true, decide_eq_true_eq] at h
  exact ⟨k.toNat, by omega, by omega, by omega⟩
theorem tab_kw : (List.range 16).map (fun n : Nat => (kword (n : Int)).contains 32) = (List.range 16).map fun _ : Nat => false := by decide
theorem tab_ne : (List.range 16).map (fun n : Nat => (decide (n = 0) || !(kword (n : Int)).isEmpty)) = (List.range 16).map fun _ : Nat => true := by decide
theorem tab_kp : (List.range 16).map (fun n : Nat => kindP (kword (n : Int))) = (List.range 16).map fun n : Nat => (n : Int) := by decide
theorem tab_kl : (List.range 16).map (fun n : Nat => kindL (kword (n : Int))) = (List.range 16).map fun n : Nat => (n : Int) := by decide
theorem of_map' {α : Type} {f g : Nat → α} {n m : Nat} (h : (List.range m).map f = (List.range m).map g) (hn : n < m) : f n = g n := (List.map_inj_left.1 h) n (List.mem_range.2 hn)
theorem kword_no {k : Int} (h : kindR k = true) : (32 : UInt8) ∉ kword k := by
  obtain ⟨n, rfl, _, h2⟩ := kindR_nat h
  intro h3
  have := of_map' tab_kw h2
  rw [List.contains_iff_mem.2 h3] at this
  cases this
theorem kword_ne {k : Int} (h : kindR k = true) : kword k ≠ [] := by
  obtain ⟨n, rfl, h1, h2⟩ := kindR_nat h
  have := of_map' tab_ne h2
  intro h3
  rw [h3] at this
  simp at this
  omega

theorem Sop.ok_no {o : Sop} {f : UInt8} (h : o.ok f = true) : (32 : UInt8) ∉ o.word f := by
  unfold Sop.ok at h
  unfold Sop.word
  split at h
  · rename_i h1; rw [if_pos h1]; exact hexT_no h
  rename_i h1; rw [if_neg h1]
  split at h
  · rename_i h1; rw [if_pos h1]; exact plainT_no h
  rename_i h1; rw [if_neg h1]
  split at h
  · rename_i h1; rw [if_pos h1]; exact plainT_no h
  rename_i h1; rw [if_neg h1]
  split at h
  · rename_i h1; rw [if_pos h1]; exact itoa_no _ _ (by decide) (by decide)
  rename_i h1; rw [if_neg h1]
  split at h
  · rename_i h1; rw [if_pos h1]; exact numsT_no _ _ (by decide) (by decide) (by decide)
  rename_i h1; rw [if_neg h1]; exact numsT_no _ _ (by decide) (by decide) (by decide)

theorem Sop.words_no {o : Sop} (h : o.lineOk = true) : ∀ w ∈ o.words, (32 : UInt8) ∉ w := by
  unfold Sop.lineOk at h
  simp only [Bool.and_eq_true] at h
  intro w hw
  rcases List.mem_cons.1 hw with rfl | hw
  · exact kword_no h.1
  · obtain ⟨f, hf, rfl⟩ := List.mem_map.1 hw
    exact Sop.ok_no (List.all_eq_true.1 h.2 f hf)
theorem Sop.line_ok {o : Sop} (h : o.lineOk = true) : o.line = Lib.join o.words [32] := by
  unfold Sop.line; rw [if_pos h]
theorem Sop.line_bad {o : Sop} (h : o.lineOk = false) : o.line = [] := by
  unfold Sop.line; rw [h]; rfl
theorem Sop.cut {o : Sop} (h : o.lineOk = true) : cutB 32 o.line = o.words := by
  rw [Sop.line_ok h]
  exact cutB_join 32 _ (by simp [Sop.words]) (Sop.words_no h)
theorem Sop.kind {o : Sop} (h : o.lineOk = true) : kindR o.k = true := by
  unfold Sop.lineOk at h
  simp only [Bool.and_eq_true] at h
  exact h.1
theorem Sop.line_ne {o : Sop} (h : o.lineOk = true) : o.line ≠ [] := by
  intro h2
  have h3 := Sop.cut h
  rw [h2] at h3
  have h4 := kword_ne (Sop.kind h)
  simp [cutB, Sop.words] at h3
  exact h4 h3.1
theorem Sop.ok_of_line {o : Sop} (h : o.line ≠ []) : o.lineOk = true := by
  cases h2 : o.lineOk with
  | true => rfl
  | false => exact absurd (Sop.line_bad h2) h

/-- What a kind does not name is zero. -/
def Sop.strip (o : Sop) : Sop :=
  if o.k = 9 ∨ o.k = 13 then ⟨o.k, [], [], 0, [], []⟩ else if o.k = 5 then ⟨o.k, o.a, o.b, 0, [], []⟩ else if o.k = 3 ∨ o.k = 12 then ⟨o.k, o.a, [], o.n, o.l, o.m⟩ else ⟨o.k, o.a, [], 0, [], []⟩

theorem kind_cases {k : Int} (h : kindR k = true) : (k = 9 ∨ k = 13) ∧ kfields k = [] ∨ k = 5 ∧ kfields k = [97, 98] ∨ (k = 3 ∨ k = 12) ∧ kfields k = [97, 110, 108, 109] ∨ k = 1 ∧ kfields k = [104] ∨
    (¬ (k = 9 ∨ k = 13) ∧ ¬ k = 5 ∧ ¬ (k = 3 ∨ k = 12) ∧ k ≠ 1) ∧ kfields k = [97] := by
  obtain ⟨n, rfl, h1, h2⟩ := kindR_nat h
  have t : ((List.range 16).map fun n : Nat => decide ((n = 9 ∨ n = 13) ∧ kfields n = [] ∨ n = 5 ∧ kfields n = [97, 98] ∨ (n = 3 ∨ n = 12) ∧ kfields n = [97, 110, 108, 109] ∨ n = 1 ∧ kfields n = [104] ∨
    (¬ (n = 9 ∨ n = 13) ∧ ¬ n = 5 ∧ ¬ (n = 3 ∨ n = 12) ∧ n ≠ 1) ∧ kfields n = [97] ∨ n = 0)) = (List.range 16).map fun _ : Nat => true := by decide
  have := of_decide_eq_true (of_map' t h2)
  rcases this with ⟨h, e⟩ | ⟨h, e⟩ | ⟨h, e⟩ | ⟨h, e⟩ | ⟨⟨a, b, c, d⟩, e⟩ | h
  · exact .inl ⟨by omega, e⟩
  · exact .inr (.inl ⟨by omega, e⟩)
  · exact .inr (.inr (.inl ⟨by omega, e⟩))
  · exact .inr (.inr (.inr (.inl ⟨by omega, e⟩)))
  · exact .inr (.inr (.inr (.inr ⟨⟨by omega, by omega, by omega, by omega⟩, e⟩)))
  · omega

theorem kindP_word {k : Int} (h : kindR k = true) : kindP (kword k) = k := by
  obtain ⟨n, rfl, h1, h2⟩ := kindR_nat h
  exact of_map' tab_kp h2
theorem kindL_word {k : Int} (h : kindR k = true) : kindL (kword k) = k := by
  obtain ⟨n, rfl, h1, h2⟩ := kindR_nat h
  exact of_map' tab_kl h2

theorem Sop.fields_ok {o : Sop} (h : o.lineOk = true) : ∀ f ∈ kfields o.k, o.ok f = true := by
  unfold Sop.lineOk at h
  simp only [Bool.and_eq_true] at h
  exact List.all_eq_true.1 h.2

theorem atoi_n {o : Sop} (h : o.ok 110 = true) : (atoiV (Lib.itoa o.n)).1 = o.n ∧ (numV 0 1000000 (Lib.itoa o.n)).1 = o.n := by
  have h2 : 0 ≤ o.n ∧ o.n ≤ 1000000 := by simpa [Sop.ok] using h
  have h3 : int32 o.n = true := int32_iff.2 ⟨by omega, by omega⟩
  rw [atoiV_itoa h3, numV_itoa h3 h2.1 h2.2]
  exact ⟨rfl, rfl⟩

theorem candP_line {o : Sop} (h : o.lineOk = true) : candP o.line = o.strip ∧ sizeOk o.line = true := by
  have hk := Sop.kind h
  have hf := Sop.fields_ok h
  have h1 : 1 ≤ o.k := by have := hk; unfold kindR at this; simp at this; exact this.1
  unfold candP sizeOk
  rw [Sop.cut h]
  have e : kindP (o.words.headD []) = o.k := kindP_word hk
  dsimp only
  rw [e]
  refine ⟨?_, by simp [Sop.words, h1]; omega⟩
  show readAll (kfields o.k) ((kfields o.k).map o.word) _ = _
  unfold Sop.strip
  rcases kind_cases hk with ⟨h2, hF⟩ | ⟨h2, hF⟩ | ⟨h2, hF⟩ | ⟨h2, hF⟩ | ⟨⟨h2, h3, h4, h5⟩, hF⟩
  · rw [hF, if_pos h2]; rfl
  · have n1 : ¬ (o.k = 9 ∨ o.k = 13) := by omega
    rw [hF, if_neg n1, if_pos h2]
    rfl
  · have n1 : ¬ (o.k = 9 ∨ o.k = 13) := by omega
    have n2 : ¬ o.k = 5 := by omega
    rw [hF] at hf
    have c1 := (atoi_n (hf 110 (by simp))).1
    have c2 := numsR_T (l := o.l) (hf 108 (by simp))
    have c3 := numsR_T (l := o.m) (hf 109 (by simp))
    rw [hF, if_neg n1, if_neg n2, if_pos h2]
    simp [readAll, readF, Sop.word, c1, c2, c3]
  · have n1 : ¬ (o.k = 9 ∨ o.k = 13) := by omega
    have n2 : ¬ o.k = 5 := by omega
    have n3 : ¬ (o.k = 3 ∨ o.k = 12) := by omega
    rw [hF, if_neg n1, if_neg n2, if_neg n3]
    rfl
  · rw [hF, if_neg h2, if_neg h3, if_neg h4]
    rfl

theorem candF_line {o : Sop} (h : o.lineOk = true) : candF o.line = o.strip := by
  have hk := Sop.kind h
  have hf := Sop.fields_ok h
  unfold candF w5
  rw [Sop.cut h]
  have e : kindL ((pad5 o.words).getD 0 []) = o.k := kindL_word hk
  dsimp only
  rw [e]
  unfold Sop.strip
  unfold Sop.words
  rcases kind_cases hk with ⟨h2, hF⟩ | ⟨h2, hF⟩ | ⟨h2, hF⟩ | ⟨h2, hF⟩ | ⟨⟨h2, h3, h4, h5⟩, hF⟩
  · rw [if_pos h2, if_pos h2]
  · have n1 : ¬ (o.k = 9 ∨ o.k = 13) := by omega
    rw [hF, if_neg n1, if_neg n1, if_pos h2, if_pos h2]
    rfl
  · have n1 : ¬ (o.k = 9 ∨ o.k = 13) := by omega
    have n2 : ¬ o.k = 5 := by omega
    rw [hF] at hf
    have c1 := (atoi_n (hf 110 (by simp))).2
    have c2 := numsF_T (l := o.l) (hf 108 (by simp))
    have c3 := numsF_T (l := o.m) (hf 109 (by simp))
    rw [hF, if_neg n1, if_neg n2, if_pos h2, if_neg n1, if_neg n2, if_pos h2]
    simp [pad5, Sop.word, c1, c2, c3]
  · have n1 : ¬ (o.k = 9 ∨ o.k = 13) := by omega
    have n2 : ¬ o.k = 5 := by omega
    have n3 : ¬ (o.k = 3 ∨ o.k = 12) := by omega
    rw [hF, if_neg n1, if_neg n2, if_neg n3, if_neg n1, if_neg n2, if_neg n3]
    rfl
  · rw [hF, if_neg h2, if_neg h3, if_neg h4, if_neg h2, if_neg h3, if_neg h4]
    rfl

/-! #### What is read is stripped -/
theorem strip_k (o : Sop) : o.strip.k = o.k := by unfold Sop.strip; repeat' split <;> try rfl
theorem strip_words {o : Sop} (hk : kindR o.k = true) : o.strip.words = o.words ∧ o.strip.lineOk = o.lineOk := by
  unfold Sop.words Sop.lineOk
  rw [strip_k]
  unfold Sop.strip
  rcases kind_cases hk with ⟨h2, hF⟩ | ⟨h2, hF⟩ | ⟨h2, hF⟩ | ⟨h2, hF⟩ | ⟨⟨h2, h3, h4, h5⟩, hF⟩
  · rw [hF, if_pos h2]; exact ⟨rfl, rfl⟩
  · have n1 : ¬ (o.k = 9 ∨ o.k = 13) := by omega
    rw [hF, if_neg n1, if_pos h2]
    exact ⟨rfl, rfl⟩
  · have n1 : ¬ (o.k = 9 ∨ o.k = 13) := by omega
    have n2 : ¬ o.k = 5 := by omega
    rw [hF, if_neg n1, if_neg n2, if_pos h2]
    exact ⟨rfl, rfl⟩
  · have n1 : ¬ (o.k = 9 ∨ o.k = 13) := by omega
    have n2 : ¬ o.k = 5 := by omega
    have n3 : ¬ (o.k = 3 ∨ o.k = 12) := by omega
    rw [hF, if_neg n1, if_neg n2, if_neg n3]
    exact ⟨rfl, rfl⟩
  · rw [hF, if_neg h2, if_neg h3, if_neg h4]
    exact ⟨rfl, rfl⟩
theorem strip_line (o : Sop) : o.strip.line = o.line := by
  by_cases hk : kindR o.k = true
  · unfold Sop.line
    rw [(strip_words hk).1, (strip_words hk).2]
  · have h1 : o.lineOk = false := by unfold Sop.lineOk; simp at hk; rw [hk]; rfl
    have h2 : o.strip.lineOk = false := by unfold Sop.lineOk; rw [strip_k]; simp at hk; rw [hk]; rfl
    rw [Sop.line_bad h1, Sop.line_bad h2]

theorem parseP_line {o : Sop} (h : o.lineOk = true) : parseP o.line = (o.strip, 0) := by
  obtain ⟨h1, h2⟩ := candP_line h
  unfold parseP
  rw [h1, h2, strip_line]
  simp
theorem parseF_line {o : Sop} (h : o.lineOk = true) : parseF o.line = (o.strip, 0) := by
  have h1 := candF_line h
  have h2 : o.line.isEmpty = false := by simpa using Sop.line_ne h
  unfold parseF
  rw [h1, h2, strip_line]
  simp
/-- Both read alike. -/
theorem parse_eq (s : List UInt8) : parseP s = parseF s := by
  by_cases h : ∃ o : Sop, o.lineOk = true ∧ o.line = s
  · obtain ⟨o, h1, rfl⟩ := h
    rw [parseP_line h1, parseF_line h1]
  · have e1 : parseP s = (Sop.zero, 7) := by
      unfold parseP
      cases hq : (sizeOk s && ((candP s).line == s)) with
      | false => rfl
      | true =>
        exfalso
        simp only [Bool.and_eq_true, beq_iff_eq] at hq
        refine h ⟨candP s, ?_, hq.2⟩
        cases hl : (candP s).lineOk with
        | true => rfl
        | false =>
          exfalso
          rw [Sop.line_bad hl] at hq
          obtain ⟨h1, rfl⟩ := hq
          exact absurd h1 (by decide)
    have e2 : parseF s = (Sop.zero, 7) := by
      unfold parseF
      cases hq : (((candF s).line == s) && !s.isEmpty) with
      | false => rfl
      | true =>
        exfalso
        simp only [Bool.and_eq_true, beq_iff_eq, Bool.not_eq_true'] at hq
        refine h ⟨candF s, Sop.ok_of_line ?_, hq.1⟩
        rw [hq.1]
        simpa using hq.2
    rw [e1, e2]
/-- With a word more it is none. -/
theorem parseP_more {o : Sop} (h : o.lineOk = true) (w : List UInt8) (hw : (32 : UInt8) ∉ w) : parseP (o.line ++ 32 :: w) = (Sop.zero, 7) := by
  have hc : cutB 32 (o.line ++ 32 :: w) = o.words ++ [w] := by
    have : o.line ++ 32 :: w = Lib.join (o.words ++ [w]) [32] := by
      rw [Sop.line_ok h]
      unfold Sop.words
      generalize (kfields o.k).map o.word = ws
      rw [List.cons_append, Lib.join_cons, Lib.join_cons]
      simp [Lib.joinTail]
    rw [this]
    refine cutB_join 32 _ (by simp) fun x hx => ?_
    rcases List.mem_append.1 hx with hx | hx
    · exact Sop.words_no h x hx
    · rw [List.mem_singleton.1 hx]; exact hw
  have hs : sizeOk (o.line ++ 32 :: w) = false := by
    unfold sizeOk
    rw [hc]
    have e : kindP ((o.words ++ [w]).headD []) = o.k := kindP_word (Sop.kind h)
    dsimp only
    rw [e]
    simp [Sop.words]
    omega
  unfold parseP
  rw [hs]
  rfl

end Go.Proofs.YtpmpofcokkgfdaaGreatDoor.Ev
