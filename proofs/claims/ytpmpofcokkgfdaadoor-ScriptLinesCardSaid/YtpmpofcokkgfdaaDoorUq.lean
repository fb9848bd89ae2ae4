/- Lines: script.Split, the reference's SplitText, lists held against each other. -/
import Derived.Test.YtpmpofcokkgfdaaDoorUp
namespace Go.Proofs.YtpmpofcokkgfdaaDoor.Ev
open Go

theorem ev_TrimSuffix (s p : List UInt8) (h : s.length ≤ 281474976710656) (m : Mem) : ev tab prim 34 [.str s, .str p] m = some (.str (Lib.trimSuffix s p), m) := by
  rw [ev_prim tab prim rfl]
  simp [prim, h]
theorem trimSuffix_len (s p : List UInt8) : (Lib.trimSuffix s p).length ≤ s.length := by
  unfold Lib.trimSuffix
  split
  · rw [List.length_take]; omega
  · exact Nat.le_refl _

theorem ev_sSplit (t : List UInt8) (h : t.length ≤ 1000000) : ev tab prim 18 [.str t] [[], []] = some (.tup [.list 1 ((splitP t).1.map V.str) true, .int .i64 (splitP t).2], [[], []]) := by
  have h1 := ev_TrimSuffix t [10] (by omega) [[], []]
  have hl := trimSuffix_len t [10]
  have h2 := ev_SplitB (Lib.trimSuffix t [10]) 10 (by omega) [[], []]
  unfold splitP
  generalize Lib.trimSuffix t [10] = u at *
  generalize cutB 10 u = ws at *
  rw [ev_fn' tab prim (f := 18) rfl _ _ rfl]
  by_cases h0 : t = []
  · subst h0
    simp
  · have h0' : (t == []) = false := by simpa using h0
    rw [if_neg h0]
    by_cases g1 : 262144 < t.length
    · have g1' : (262144 : Int) < (t.length : Int) := by omega
      rw [if_pos (.inl g1)]
      simp [h0', h1, h2, g1, g1']
    · have g1' : ¬ (262144 : Int) < (t.length : Int) := by omega
      by_cases g2 : 10000 < ws.length
      · have g2' : (10000 : Int) < (ws.length : Int) := by omega
        rw [if_pos (.inr g2)]
        simp [h0', h1, h2, g1, g1', g2, g2']
      · have g2' : ¬ (10000 : Int) < (ws.length : Int) := by omega
        rw [if_neg (by omega)]
        simp [h0', h1, h2, g1, g1', g2, g2']

/-! ### The reference's lines -/
def stL (t : List UInt8) (l : List (List UInt8)) (f i : Nat) : St := { env := [(0, .str t), (4, .list 1 (l.map V.str) true), (5, .int .i64 f), (6, .int .i64 i)], mem := [[], [], []] }
theorem st_loop (t : List UInt8) (ht : t.length ≤ 1000000) : ∀ (n i f : Nat) (l : List (List UInt8)), t.length - i = n → f ≤ i → i ≤ t.length → (10 : UInt8) ∉ (t.drop f).take (i - f) → l.length + (t.length - i) ≤ 2000000 →
    ∃ g, g ≤ t.length ∧ (cutB 10 (t.drop f)).getLast? = some (t.drop g) ∧ cv tab prim (.loop L19_0) (stL t l f i) = some (.exit 0, { env := [(0, .str t), (4, .list 1 ((l ++ (cutB 10 (t.drop f)).dropLast).map V.str) true), (5, .int .i64 g)], mem := [[], [], []] }) := by
  intro n
  induction n with
  | zero =>
    intro i f l hn hf hi hno hl
    obtain rfl : i = t.length := by omega
    have hdf : (t.drop f).take (t.length - f) = t.drop f := List.take_of_length_le (by simp)
    rw [hdf] at hno
    refine ⟨f, hf, ?_, ?_⟩
    · rw [cutB_plain 10 _ hno]; rfl
    · rw [cutB_plain 10 _ hno, cv_loop']
      simp [stL, L19_0]
  | succ n ih =>
    intro i f l hn hf hi hno hl
    have hlt : i < t.length := by omega
    have w1 : IntKind.i64.wrap ((i : Int) + 1) = ((i : Int) + 1) := wrap_small (by omega) (by omega)
    have b1 : l.length + 1 ≤ 140737488355328 := by omega
    have b2 : (l.length + 1) * 16 ≤ 140737488355328 := by omega
    have c1 : (f : Int) ≤ (i : Int) := by omega
    have c2 : (i : Int) ≤ (t.length : Int) := by omega
    have hsp : t.drop f = (t.drop f).take (i - f) ++ t.drop i := by
      have := List.take_append_drop (i - f) (t.drop f)
      rw [List.drop_drop, show f + (i - f) = i by omega] at this
      exact this.symm
    have hdi : t.drop i = t[i] :: t.drop (i + 1) := List.drop_eq_getElem_cons hlt
    by_cases hb : t[i] = 10
    · have e1 : ((t[i].toNat : Int) == 10) = true := by rw [hb]; rfl
      have hcut : cutB 10 (t.drop f) = (t.drop f).take (i - f) :: cutB 10 (t.drop (i + 1)) := by
        rw [hdi, hb] at hsp
        conv => lhs; rw [hsp]
        exact cutB_app 10 _ _ hno
      have hstep : cv tab prim L19_0 (stL t l f i) = some (.normal, stL t (l ++ [(t.drop f).take (i - f)]) (i + 1) (i + 1)) := by
        simp [stL, L19_0, w1, b1, b2, c1, c2, hf, hlt, idxOk, e1, List.drop_take]
      obtain ⟨g, hg1, hg2, hg3⟩ := ih (i + 1) (i + 1) (l ++ [(t.drop f).take (i - f)]) (by omega) (Nat.le_refl _) (by omega) (by simp) (by simp; omega)
      refine ⟨g, hg1, ?_, ?_⟩
      · rw [hcut]
        cases hc : cutB 10 (t.drop (i + 1)) with
        | nil => exact absurd hc (cutB_ne _ _)
        | cons a b => rw [List.getLast?_cons_cons, ← hc]; exact hg2
      · rw [cv_loop', hstep, roundK_n, hg3, hcut]
        cases hc : cutB 10 (t.drop (i + 1)) with
        | nil => exact absurd hc (cutB_ne _ _)
        | cons a b => rw [List.dropLast_cons_cons]; simp
    · have e1 : ((t[i].toNat : Int) == 10) = false := by
        rw [beq_eq_false_iff_ne]; intro h2; exact hb (UInt8.toNat_inj.1 (by show t[i].toNat = 10; omega))
      have hstep : cv tab prim L19_0 (stL t l f i) = some (.normal, stL t l f (i + 1)) := by
        simp [stL, L19_0, w1, c1, c2, hf, hlt, idxOk, e1]
      obtain ⟨g, hg1, hg2, hg3⟩ := ih (i + 1) f l (by omega) (by omega) (by omega) (by
        rw [show i + 1 - f = (i - f) + 1 by omega, List.take_add_one, List.getElem?_drop, show f + (i - f) = i by omega, List.getElem?_eq_getElem hlt]
        simp only [Option.toList_some, List.mem_append, List.mem_singleton, not_or]
        exact ⟨hno, fun h2 => hb h2.symm⟩) (by omega)
      exact ⟨g, hg1, hg2, by rw [cv_loop', hstep, roundK_n, hg3]⟩

theorem dropE_of {p : List (List UInt8)} {u : List UInt8} (h : p.getLast? = some u) : dropE p = p.dropLast ++ (if u = [] then [] else [u]) := by
  have hne : p ≠ [] := by rintro rfl; cases h
  have h2 := List.dropLast_concat_getLast hne
  rw [List.getLast?_eq_some_getLast hne] at h
  rw [Option.some.inj h] at h2
  unfold dropE
  rw [List.getLast?_eq_some_getLast hne, h]
  by_cases hu : u = []
  · subst hu; rw [if_pos rfl, if_pos rfl]; simp
  · rw [if_neg (by simpa using hu), if_neg hu, h2]

theorem ev_rSplitText (t : List UInt8) (h : t.length ≤ 1000000) : ev tab prim 19 [.str t] [[], []] = some (.tup [.list 1 ((splitF t).1.map V.str) true, .int .i64 (splitF t).2], [[], []]) := by
  unfold splitF
  by_cases g1 : 262144 < t.length
  · have g1' : (262144 : Int) < (t.length : Int) := by omega
    rw [if_pos g1, ev_fn' tab prim (f := 19) rfl _ _ rfl]
    simp [g1, g1']
  · have g1' : ¬ (262144 : Int) < (t.length : Int) := by omega
    rw [if_neg g1]
    obtain ⟨g, hg1, hg2, hL⟩ := st_loop t h t.length 0 0 [] rfl (Nat.le_refl _) (Nat.zero_le _) (by simp) (by simp; omega)
    rw [List.drop_zero] at hg2 hL
    have hcnt := cutB_count 10 t
    have hD := dropE_of hg2
    rw [List.nil_append] at hL
    unfold stL at hL
    simp only [Int.cast_ofNat_Int] at hL
    have hdl : (cutB 10 t).dropLast.length + 1 ≤ 140737488355328 := by rw [List.length_dropLast]; omega
    have hdl2 : ((cutB 10 t).dropLast.length + 1) * 16 ≤ 140737488355328 := by rw [List.length_dropLast]; omega
    rw [hD]
    generalize (cutB 10 t).dropLast = dl at *
    have hgz : t.drop g = [] ↔ ¬ g < t.length := by rw [List.drop_eq_nil_iff]; omega
    have hg0 : (0 : Int) ≤ (g : Int) := by omega
    have hgl : (g : Int) ≤ (t.length : Int) := by omega
    rw [ev_fn' tab prim (f := 19) rfl _ _ rfl]
    simp at hL
    by_cases hlt : g < t.length
    · have hne : ¬ t.drop g = [] := fun hz => (hgz.1 hz) hlt
      have hlt' : (g : Int) < (t.length : Int) := by omega
      rw [if_neg hne]
      by_cases g2 : 10000 < dl.length + 1
      · have g2' : (10000 : Int) < (dl.length : Int) + 1 := by omega
        rw [if_pos (by simpa using g2)]
        simp [g1, g1', hL, hlt, hlt', hdl, hdl2, hgl, g2, g2']
      · have g2' : ¬ (10000 : Int) < (dl.length : Int) + 1 := by omega
        rw [if_neg (by simpa using g2)]
        simp [g1, g1', hL, hlt, hlt', hdl, hdl2, hgl, g2, g2']
    · have hz : t.drop g = [] := hgz.2 hlt
      have hlt' : ¬ (g : Int) < (t.length : Int) := by omega
      rw [if_pos hz, List.append_nil]
      by_cases g2 : 10000 < dl.length
      · have g2' : (10000 : Int) < (dl.length : Int) := by omega
        rw [if_pos g2]
        simp [g1, g1', hL, hlt, hlt', g2, g2']
      · have g2' : ¬ (10000 : Int) < (dl.length : Int) := by omega
        rw [if_neg g2]
        simp [g1, g1', hL, hlt, hlt', g2, g2']

/-! ### A list held against itself -/
theorem ev_Texts1 (ws : List (List UInt8)) (hw : ws.length ≤ 1000000) : ev tab prim 20 [.list 1 (ws.map V.str) false, .list 1 (ws.map V.str) false] [[], []] = some (.bool true, [[], []]) := by
  have hL := loop_all (b := L20_0) (fun i => { env := [(0, .list 1 (ws.map V.str) false), (1, .list 1 (ws.map V.str) false), (5, .int .i64 (i : Nat))], mem := [[], [], []] }) ws.length (.exit 0, { env := [], mem := [[], [], []] })
    (fun i hi => by
      have w1 : IntKind.i64.wrap ((i : Int) + 1) = ((i + 1 : Nat) : Int) := by rw [wrap_small] <;> omega
      have g1 : (i : Int) < (ws.length : Int) := by omega
      simp [L20_0, idxOk, hi, g1, w1])
    (by simp [L20_0]) (by simp)
  simp only [Int.cast_ofNat_Int] at hL
  rw [ev_fn' tab prim (f := 20) rfl _ _ rfl]
  simp [hL]
theorem ev_Texts2 (ws : List (List UInt8)) (hw : ws.length ≤ 1000000) : ev tab prim 21 [.list 1 (ws.map V.str) false, .list 1 (ws.map V.str) false] [[], []] = some (.bool true, [[], []]) := by
  have hL := loop_all (b := L21_0) (fun i => { env := [(0, .list 1 (ws.map V.str) false), (1, .list 1 (ws.map V.str) false), (5, .int .i64 (i : Nat))], mem := [[], [], []] }) ws.length (.exit 0, { env := [], mem := [[], [], []] })
    (fun i hi => by
      have w1 : IntKind.i64.wrap ((i : Int) + 1) = ((i + 1 : Nat) : Int) := by rw [wrap_small] <;> omega
      have g1 : (i : Int) < (ws.length : Int) := by omega
      simp [L21_0, idxOk, hi, g1, w1])
    (by simp [L21_0]) (by simp)
  simp only [Int.cast_ofNat_Int] at hL
  rw [ev_fn' tab prim (f := 21) rfl _ _ rfl]
  simp [hL]

end Go.Proofs.YtpmpofcokkgfdaaDoor.Ev
