/- The law ScriptWords. -/
import Derived.Test.YtpmpofcokkgfdaaDoorUo
namespace Go.Proofs.YtpmpofcokkgfdaaDoor.Ev
open Go

/-! ### How many bytes texts have, held -/
def totF (top : Int) : Int → List (List UInt8) → Int
  | n, [] => n
  | n, w :: r => if n ≤ top then totF top (sumF n [(w.length : Int), 1]) r else n
theorem totF_pos (top : Int) : ∀ (ws : List (List UInt8)) (n : Int), 0 ≤ n → 0 ≤ totF top n ws
  | [], n, h => h
  | w :: r, n, h => by
    unfold totF
    split
    · exact totF_pos top r _ (sumF_pos h (by simp))
    · exact h
theorem totF_ge (top : Int) : ∀ (ws : List (List UInt8)) (n : Int), 0 ≤ n → n ≤ 2000 → top ≤ 2000 → totF top n ws ≤ top → n + (ws.map fun w => (w.length : Int) + 1).sum ≤ top
  | [], n, _, _, _, h => by simpa [totF] using h
  | w :: r, n, h0, hn, ht, h => by
    unfold totF at h
    split at h
    · rename_i hle
      have hp := totF_ge top r (sumF n [(w.length : Int), 1]) (sumF_pos h0 (by simp))
      have hs := sumF_held [(w.length : Int), 1] n h0 (by simp)
      by_cases hb : sumF n [(w.length : Int), 1] ≤ top
      · have e := hs.2 (by omega)
        have := hp (by omega) ht h
        rw [e] at this
        simp at this ⊢
        omega
      · exfalso
        cases r with
        | nil => unfold totF at h; omega
        | cons x q => unfold totF at h; rw [if_neg hb] at h; omega
    · omega
def toSt (top : Int) (ws : List (List UInt8)) (n : Int) (i : Nat) : St := { env := [(0, .list 1 (ws.map V.str) false), (1, .int .i64 top), (5, .int .i64 n), (6, .int .i64 i)], mem := [[], [], []] }
theorem to_loop (top : Int) (ws : List (List UInt8)) (hw : ws.length ≤ maxLen) : ∀ k i (n : Int), ws.length - i = k → i ≤ ws.length → 0 ≤ n →
    cv tab prim (.loop L13_0) (toSt top ws n i) = some (.exit 0, { env := [(5, .int .i64 (totF top n (ws.drop i)))], mem := [[], [], []] }) := by
  intro k
  induction k with
  | zero =>
    intro i n hk hi hn
    obtain rfl : i = ws.length := by omega
    rw [List.drop_length, cv_loop']
    have e : totF top n [] = n := rfl
    rw [e]
    simp [toSt, L13_0]
  | succ k ih =>
    intro i n hk hi hn
    have hlt : i < ws.length := by omega
    have hd : ws.drop i = ws[i] :: ws.drop (i + 1) := List.drop_eq_getElem_cons hlt
    have hS := ev_Sum n [(ws[i].length : Int), 1] (by simp) hn (by simp) false
    have w1 : IntKind.i64.wrap ((i : Int) + 1) = ((i + 1 : Nat) : Int) := wrap_succ hlt hw
    have g1 : (i : Int) < (ws.length : Int) := by omega
    rw [hd]
    unfold totF
    by_cases hle : n ≤ top
    · rw [if_pos hle, ← ih (i + 1) (sumF n [(ws[i].length : Int), 1]) (by omega) (by omega) (sumF_pos hn (by simp))]
      have hs : cv tab prim L13_0 (toSt top ws n i) = some (.normal, toSt top ws (sumF n [(ws[i].length : Int), 1]) (i + 1)) := by
        unfold toSt
        generalize sumF n [(ws[i].length : Int), 1] = z at *
        simp at hS
        simp [L13_0, idxOk, hlt, g1, hle, hS, w1]
      rw [cv_loop', hs, roundK_n]
    · rw [if_neg hle, cv_loop']
      unfold toSt
      simp [L13_0, hlt, g1, hle]
theorem ev_Total (top : Int) (ws : List (List UInt8)) (hw : ws.length ≤ maxLen) : ev tab prim 13 [.list 1 (ws.map V.str) false, .int .i64 top] [[], []] = some (.int .i64 (totF top 0 ws), [[], []]) := by
  have hL := to_loop top ws hw ws.length 0 0 rfl (Nat.zero_le _) (Int.le_refl _)
  rw [List.drop_zero] at hL
  unfold toSt at hL
  simp only [Int.cast_ofNat_Int] at hL
  generalize totF top 0 ws = z at *
  generalize ws.map V.str = vs at *
  rw [ev_fn' tab prim (f := 13) rfl _ _ rfl]
  simp [hL]
theorem tot_len (ws : List (List UInt8)) : ((listT ws).length : Int) = (ws.map fun w => (w.length : Int) + 1).sum := by
  induction ws with
  | nil => rfl
  | cons w r ih =>
    have e : listT (w :: r) = 32 :: w ++ listT r := by simp [listT]
    rw [e]
    simp at ih ⊢
    omega
theorem tot_count (ws : List (List UInt8)) : (ws.length : Int) ≤ (ws.map fun w => (w.length : Int) + 1).sum := by
  induction ws with
  | nil => simp
  | cons w r ih => simp at ih ⊢; omega

/-! ### Events -/
structure Evt where (k : Int) (w : List UInt8) (pc : Int) (t : List UInt8)
def Evt.v (e : Evt) : V := .agg [.int .i64 e.k, .str e.w, .int .i64 e.pc, .str e.t]
def ewords : List (List UInt8) := [[], [99, 97, 108, 108], [116, 104, 114, 111, 119], [99, 97, 116, 99, 104], [110, 97, 116, 105, 118, 101], [105, 110, 105, 116], [101, 110, 100]]
def Evt.text (e : Evt) : List UInt8 := if 1 ≤ e.k ∧ e.k ≤ 6 then ewords.getD e.k.toNat [] ++ listT [e.w, Lib.itoa e.pc, e.t] else []

theorem ev_Event (e : Evt) (hp : -9223372036854775808 ≤ e.pc ∧ e.pc ≤ 9223372036854775807) (hw : e.w.length ≤ 10000) (ht : e.t.length ≤ 10000) : ev tab prim 16 [e.v] [[], []] = some (.str e.text, [[], []]) := by
  have h1 := ev_Itoa e.pc hp [[], []]
  have h2 := itoa_len e.pc hp
  have h3 := ev_List [e.w, Lib.itoa e.pc, e.t] (by simp) (by simp [listT]; omega)
  have h4 : (listT [e.w, Lib.itoa e.pc, e.t]).length ≤ 30000 := by simp [listT]; omega
  unfold Evt.text
  obtain ⟨k, w, pc, t⟩ := e
  dsimp only at *
  unfold Evt.v
  generalize listT [w, Lib.itoa pc, t] = lt at *
  generalize Lib.itoa pc = ip at *
  rw [ev_fn' tab prim (f := 16) rfl _ _ rfl]
  simp at h3
  by_cases c1 : k < 1
  · rw [if_neg (by omega)]
    simp [c1]
  by_cases c2 : 6 < k
  · rw [if_neg (by omega)]
    simp [c1, c2]
  rw [if_pos ⟨by omega, by omega⟩]
  have l4 : (4 : Nat) + lt.length ≤ 9223372036854775807 := by omega
  have l5 : (5 : Nat) + lt.length ≤ 9223372036854775807 := by omega
  have l6 : (6 : Nat) + lt.length ≤ 9223372036854775807 := by omega
  have l3 : (3 : Nat) + lt.length ≤ 9223372036854775807 := by omega
  rcases (by omega : k = 1 ∨ k = 2 ∨ k = 3 ∨ k = 4 ∨ k = 5 ∨ k = 6) with rfl | rfl | rfl | rfl | rfl | rfl
  all_goals simp [ewords, idxOk, h1, h3, l3, l4, l5, l6]
theorem ev_rEvent (e : Evt) (hp : -9223372036854775808 ≤ e.pc ∧ e.pc ≤ 9223372036854775807) (hw : e.w.length ≤ 10000) (ht : e.t.length ≤ 10000) : ev tab prim 17 [e.v] [[], []] = some (.str e.text, [[], []]) := by
  have h1 := ev_Decimal e.pc hp
  have h2 := itoa_len e.pc hp
  unfold Evt.text
  obtain ⟨k, w, pc, t⟩ := e
  dsimp only at *
  unfold Evt.v
  have hlt : listT [w, Lib.itoa pc, t] = 32 :: (w ++ 32 :: (Lib.itoa pc ++ 32 :: t)) := by simp [listT]
  rw [hlt]
  generalize Lib.itoa pc = ip at *
  rw [ev_fn' tab prim (f := 17) rfl _ _ rfl]
  by_cases c1 : k < 1
  · rw [if_neg (by omega)]
    simp [c1]
  by_cases c2 : 6 < k
  · rw [if_neg (by omega)]
    simp [c1, c2]
  rw [if_pos ⟨by omega, by omega⟩]
  have key : ∀ kw : List UInt8, kw.length ≤ 6 → (kw ++ [32]).length + w.length ≤ 9223372036854775807 ∧ (kw ++ 32 :: w).length + ([32] : List UInt8).length ≤ 9223372036854775807 ∧ (kw ++ 32 :: (w ++ [32])).length + ip.length ≤ 9223372036854775807 ∧
      (kw ++ 32 :: (w ++ 32 :: ip)).length + ([32] : List UInt8).length ≤ 9223372036854775807 ∧ (kw ++ 32 :: (w ++ 32 :: (ip ++ [32]))).length + t.length ≤ 9223372036854775807 := by
    intro kw hk
    simp
    omega
  rcases (by omega : k = 1 ∨ k = 2 ∨ k = 3 ∨ k = 4 ∨ k = 5 ∨ k = 6) with rfl | rfl | rfl | rfl | rfl | rfl
  · have q := key [99, 97, 108, 108] (by simp)
    simp at q
    simp [ewords, idxOk, h1, q]
  · have q := key [116, 104, 114, 111, 119] (by simp)
    simp at q
    simp [ewords, idxOk, h1, q]
  · have q := key [99, 97, 116, 99, 104] (by simp)
    simp at q
    simp [ewords, idxOk, h1, q]
  · have q := key [110, 97, 116, 105, 118, 101] (by simp)
    simp at q
    simp [ewords, idxOk, h1, q]
  · have q := key [105, 110, 105, 116] (by simp)
    simp at q
    simp [ewords, idxOk, h1, q]
  · have q := key [101, 110, 100] (by simp)
    simp at q
    simp [ewords, idxOk, h1, q]

theorem ev_lawWords (ws : List (List UInt8)) (hw : ws.length ≤ maxLen) (e : Evt) (hp : -9223372036854775808 ≤ e.pc ∧ e.pc ≤ 9223372036854775807) :
    ev tab prim 4 [.list 1 (ws.map V.str) false, e.v] [[], []] = some (.bool true, [[], []]) := by
  have h1 := ev_Total 1000 ws hw
  have hpos := totF_pos 1000 ws 0 (Int.le_refl _)
  have h2 := ev_Sum (totF 1000 0 ws) [(e.w.length : Int), (e.t.length : Int)] (by simp) hpos (by simp) false
  have hA := ev_awakeS
  by_cases hb : 1000 < sumF (totF 1000 0 ws) [(e.w.length : Int), (e.t.length : Int)]
  · unfold Evt.v
    generalize ws.map V.str = vs at *
    simp at h2
    rw [ev_fn' tab prim (f := 4) rfl _ _ rfl]
    simp [h1, h2, hb, hA]
  · have hh := (sumF_held [(e.w.length : Int), (e.t.length : Int)] (totF 1000 0 ws) hpos (by simp)).2 (by omega)
    simp at hh
    have hT := totF_ge 1000 ws 0 (Int.le_refl _) (by omega) (by omega) (by omega)
    have c1 := tot_len ws
    have c2 := tot_count ws
    have h3 := ev_List ws (by omega) (by omega)
    have h4 := ev_rList ws (by omega) (by omega)
    have h5 := ev_Event e hp (by omega) (by omega)
    have h6 := ev_rEvent e hp (by omega) (by omega)
    generalize listT ws = lt at *
    generalize e.text = et at *
    unfold Evt.v at *
    generalize ws.map V.str = vs at *
    simp at h2
    rw [ev_fn' tab prim (f := 4) rfl _ _ rfl]
    simp [h1, h2, h3, h4, h5, h6, hb, hA]

end Go.Proofs.YtpmpofcokkgfdaaDoor.Ev
