/- The law ScriptLines. -/
import Derived.Test.YtpmpofcokkgfdaaDoorUq
namespace Go.Proofs.YtpmpofcokkgfdaaDoor.Ev
open Go

theorem glue_succ (ws : List (List UInt8)) (i : Nat) (h : i < ws.length) : glue (ws.take (i + 1)) = glue (ws.take i) ++ (ws[i] ++ [10]) := by
  unfold glue
  rw [List.take_succ_eq_append_getElem h, List.map_append, List.flatten_append]
  congr 1
  simp
theorem glue_len (ws : List (List UInt8)) : ((glue ws).length : Int) = (ws.map fun w => (w.length : Int) + 1).sum := by
  induction ws with
  | nil => rfl
  | cons w r ih =>
    have e : glue (w :: r) = w ++ 10 :: glue r := by simp [glue]
    rw [e]
    simp at ih ⊢
    omega
theorem glue_take (ws : List (List UInt8)) (i : Nat) : (glue (ws.take i)).length ≤ (glue ws).length := by
  have : glue ws = glue (ws.take i) ++ glue (ws.drop i) := by
    unfold glue
    rw [← List.flatten_append, ← List.map_append, List.take_append_drop]
  rw [this, List.length_append]
  omega

/-! ### Is an end of a line in a text -/
def lnE (ws : List (List UInt8)) (ex bg : Int) (acc : List UInt8) (i : Nat) : Env := [(0, .list 1 (ws.map V.str) false), (1, .int .i64 ex), (2, .int .i64 bg), (7, .str acc), (8, .int .i64 i)]
theorem no10 (w : List UInt8) : (∀ j, j < w.length → (!(w.getD j 0 == 10)) = true) ↔ (10 : UInt8) ∉ w := by
  refine ⟨fun h hm => ?_, fun h j hj => ?_⟩
  · obtain ⟨j, hj, hw⟩ := List.mem_iff_getElem.1 hm
    have := h j hj
    simp [List.getD_eq_getElem?_getD, hj, hw] at this
  · have : w[j] ≠ 10 := fun h2 => h (h2 ▸ List.getElem_mem hj)
    simp [List.getD_eq_getElem?_getD, hj, this]
theorem ln_in (ws : List (List UInt8)) (ex bg : Int) (acc : List UInt8) (i : Nat) (hi : i < ws.length) (hw : ws[i].length ≤ 1000000) :
    cv tab prim (.loop L5_0) { env := lnE ws ex bg acc i ++ [(9, .int .i64 0)], mem := [[], [], []] } =
      if (10 : UInt8) ∉ ws[i] then some (.exit 2, { env := lnE ws ex bg acc i, mem := [[], [], []] }) else some (.ret, { env := [(6, .bool true)], mem := [[], [], []] }) := by
  have hA := ev_awakeS
  have hL := loop_find (b := L5_0) (fun j => { env := lnE ws ex bg acc i ++ [(9, .int .i64 (j : Nat))], mem := [[], [], []] }) ws[i].length (fun j => !(ws[i].getD j 0 == 10)) (.exit 2, { env := lnE ws ex bg acc i, mem := [[], [], []] }) (.ret, { env := [(6, .bool true)], mem := [[], [], []] })
    (fun j hj h => by
      have w1 : IntKind.i64.wrap ((j : Int) + 1) = ((j + 1 : Nat) : Int) := by rw [wrap_small] <;> omega
      have hgd : ws[i].getD j 0 = ws[i][j] := by simp [List.getD_eq_getElem?_getD, hj]
      rw [hgd] at h
      have hne : ws[i][j] ≠ 10 := by simpa using h
      have e1 : ((ws[i][j].toNat : Int) == 10) = false := by
        rw [beq_eq_false_iff_ne]; intro h2; exact hne (UInt8.toNat_inj.1 (by show ws[i][j].toNat = 10; omega))
      have g1 : (j : Int) < (ws[i].length : Int) := by omega
      unfold lnE
      simp [L5_0, idxOk, hi, hj, g1, e1, w1])
    (fun j hj h => by
      have hgd : ws[i].getD j 0 = ws[i][j] := by simp [List.getD_eq_getElem?_getD, hj]
      rw [hgd] at h
      have he : ws[i][j] = 10 := by simpa using h
      have e1 : ((ws[i][j].toNat : Int) == 10) = true := by rw [he]; rfl
      have g1 : (j : Int) < (ws[i].length : Int) := by omega
      unfold lnE
      simp [L5_0, idxOk, hi, hj, g1, e1, hA])
    (by unfold lnE; simp [L5_0, idxOk, hi]) (by simp) (by simp)
  simp only [Int.cast_ofNat_Int] at hL
  by_cases hq : (10 : UInt8) ∉ ws[i]
  · rw [if_pos ((no10 _).2 hq)] at hL
    rw [if_pos hq]
    exact hL
  · rw [if_neg (fun h => hq ((no10 _).1 h))] at hL
    rw [if_neg hq]
    exact hL

theorem ln_out (ws : List (List UInt8)) (ex bg : Int) (hw : ws.length ≤ 1000000) (hg : (glue ws).length ≤ 1000000) :
    cv tab prim (.loop L5_1) { env := lnE ws ex bg [] 0, mem := [[], [], []] } =
      if ∀ w ∈ ws, (10 : UInt8) ∉ w then some (.exit 0, { env := [(0, .list 1 (ws.map V.str) false), (1, .int .i64 ex), (2, .int .i64 bg), (7, .str (glue ws))], mem := [[], [], []] }) else some (.ret, { env := [(6, .bool true)], mem := [[], [], []] }) := by
  have hln : ∀ i (hi : i < ws.length), (ws[i]).length ≤ 1000000 := fun i hi => by
    have h1 := glue_take ws (i + 1)
    rw [glue_succ ws i hi] at h1
    simp at h1
    omega
  have hL := loop_find (b := L5_1) (fun i => { env := lnE ws ex bg (glue (ws.take i)) i, mem := [[], [], []] }) ws.length (fun i => decide ((10 : UInt8) ∉ ws.getD i [])) (.exit 0, { env := [(0, .list 1 (ws.map V.str) false), (1, .int .i64 ex), (2, .int .i64 bg), (7, .str (glue ws))], mem := [[], [], []] }) (.ret, { env := [(6, .bool true)], mem := [[], [], []] })
    (fun i hi h => by
      have w1 : IntKind.i64.wrap ((i : Int) + 1) = ((i + 1 : Nat) : Int) := by rw [wrap_small] <;> omega
      have hgd : ws.getD i [] = ws[i] := by simp [List.getD_eq_getElem?_getD, hi]
      rw [hgd] at h
      have hI := ln_in ws ex bg (glue (ws.take i)) i hi (hln i hi)
      rw [if_pos (of_decide_eq_true h)] at hI
      have h1 := glue_take ws (i + 1)
      have h2 := glue_succ ws i hi
      rw [h2] at h1
      have g1 : (i : Int) < (ws.length : Int) := by omega
      rw [h2]
      generalize glue (ws.take i) = acc at *
      have l1 : acc.length + ws[i].length ≤ 9223372036854775807 := by simp at h1 ⊢; omega
      have l2 : (acc ++ ws[i]).length + ([10] : List UInt8).length ≤ 9223372036854775807 := by simp at h1 ⊢; omega
      simp at l2
      unfold lnE at *
      simp at hI
      simp [L5_1, idxOk, hi, g1, hI, w1, l1, l2])
    (fun i hi h => by
      have hgd : ws.getD i [] = ws[i] := by simp [List.getD_eq_getElem?_getD, hi]
      rw [hgd] at h
      have hI := ln_in ws ex bg (glue (ws.take i)) i hi (hln i hi)
      rw [if_neg (of_decide_eq_false h)] at hI
      have g1 : (i : Int) < (ws.length : Int) := by omega
      generalize glue (ws.take i) = acc at *
      unfold lnE at *
      simp at hI
      simp [L5_1, idxOk, hi, g1, hI])
    (by unfold lnE; simp [L5_1]) (by simp) (by simp)
  have e0 : glue (ws.take 0) = [] := rfl
  rw [e0] at hL
  have hall : (∀ i, i < ws.length → decide ((10 : UInt8) ∉ ws.getD i []) = true) ↔ ∀ w ∈ ws, (10 : UInt8) ∉ w := by
    refine ⟨fun h w hm => ?_, fun h i hi => ?_⟩
    · obtain ⟨i, hi, rfl⟩ := List.mem_iff_getElem.1 hm
      have := of_decide_eq_true (h i hi)
      simpa [List.getD_eq_getElem?_getD, hi] using this
    · have := h ws[i] (List.getElem_mem hi)
      simpa [List.getD_eq_getElem?_getD, hi] using this
  by_cases hq : ∀ w ∈ ws, (10 : UInt8) ∉ w
  · rw [if_pos (hall.2 hq)] at hL
    rw [if_pos hq]
    exact hL
  · rw [if_neg (fun h => hq (hall.1 h))] at hL
    rw [if_neg hq]
    exact hL

/-! ### Bytes more -/
theorem ln_ex (vs : List V) (ex : Nat) (bg : Int) (bs : List UInt8) (hex : ex ≤ 10100) (hb : bs.length ≤ 1000000) :
    cv tab prim (.loop L5_2) { env := [(0, .list 1 vs false), (1, .int .i64 ex), (2, .int .i64 bg), (10, .list 1 (bs.map byteV) true), (11, .int .i64 0)], mem := [[], [], []] } =
      some (.exit 4, { env := [(0, .list 1 vs false), (1, .int .i64 ex), (2, .int .i64 bg), (10, .list 1 ((bs ++ List.replicate ex 10).map byteV) true)], mem := [[], [], []] }) := by
  have hL := loop_all (b := L5_2) (fun i => { env := [(0, .list 1 vs false), (1, .int .i64 ex), (2, .int .i64 bg), (10, .list 1 ((bs ++ List.replicate i 10).map byteV) true), (11, .int .i64 (i : Nat))], mem := [[], [], []] }) ex (.exit 4, { env := [(0, .list 1 vs false), (1, .int .i64 ex), (2, .int .i64 bg), (10, .list 1 ((bs ++ List.replicate ex 10).map byteV) true)], mem := [[], [], []] })
    (fun i hi => by
      have w1 : IntKind.i64.wrap ((i : Int) + 1) = ((i + 1 : Nat) : Int) := by rw [wrap_small] <;> omega
      have g1 : (i : Int) < (ex : Int) := by omega
      have e1 : (bs ++ List.replicate (i + 1) (10 : UInt8)).map byteV = (bs ++ List.replicate i 10).map byteV ++ [.int .u8 10] := by
        rw [List.replicate_succ', ← List.append_assoc, List.map_append]; rfl
      have hlen : ((bs ++ List.replicate i (10 : UInt8)).map byteV).length ≤ 2000000 := by simp; omega
      rw [e1]
      generalize (bs ++ List.replicate i (10 : UInt8)).map byteV = q at *
      have b1 : q.length + 1 ≤ 140737488355328 := by omega
      simp [L5_2, g1, hi, w1, b1])
    (by simp [L5_2]) (by simp)
  simpa using hL
theorem ln_bg (vs : List V) (ex : Int) (bg : Nat) (bs : List UInt8) (hbg : bg ≤ 300000) (hb : bs.length ≤ 2000000) :
    cv tab prim (.loop L5_3) { env := [(0, .list 1 vs false), (1, .int .i64 ex), (2, .int .i64 bg), (10, .list 1 (bs.map byteV) true), (12, .int .i64 0)], mem := [[], [], []] } =
      some (.exit 6, { env := [(0, .list 1 vs false), (1, .int .i64 ex), (2, .int .i64 bg), (10, .list 1 ((bs ++ List.replicate bg 120).map byteV) true)], mem := [[], [], []] }) := by
  have hL := loop_all (b := L5_3) (fun i => { env := [(0, .list 1 vs false), (1, .int .i64 ex), (2, .int .i64 bg), (10, .list 1 ((bs ++ List.replicate i 120).map byteV) true), (12, .int .i64 (i : Nat))], mem := [[], [], []] }) bg (.exit 6, { env := [(0, .list 1 vs false), (1, .int .i64 ex), (2, .int .i64 bg), (10, .list 1 ((bs ++ List.replicate bg 120).map byteV) true)], mem := [[], [], []] })
    (fun i hi => by
      have w1 : IntKind.i64.wrap ((i : Int) + 1) = ((i + 1 : Nat) : Int) := by rw [wrap_small] <;> omega
      have g1 : (i : Int) < (bg : Int) := by omega
      have e1 : (bs ++ List.replicate (i + 1) (120 : UInt8)).map byteV = (bs ++ List.replicate i 120).map byteV ++ [.int .u8 120] := by
        rw [List.replicate_succ', ← List.append_assoc, List.map_append]; rfl
      have hlen : ((bs ++ List.replicate i (120 : UInt8)).map byteV).length ≤ 3000000 := by simp; omega
      rw [e1]
      generalize (bs ++ List.replicate i (120 : UInt8)).map byteV = q at *
      have b1 : q.length + 1 ≤ 140737488355328 := by omega
      simp [L5_3, g1, hi, w1, b1])
    (by simp [L5_3]) (by simp)
  simpa using hL

set_option maxHeartbeats 4000000 in
theorem ev_lawLinesS (ws : List (List UInt8)) (hw : ws.length ≤ maxLen) (ex bg : Int) : ev tab prim 5 [.list 1 (ws.map V.str) false, .int .i64 ex, .int .i64 bg] [[], []] = some (.bool true, [[], []]) := by
  have h1 := ev_Total 500 ws hw
  have hpos := totF_pos 500 ws 0 (Int.le_refl _)
  have hA := ev_awakeS
  by_cases c1 : 500 < totF 500 0 ws
  · generalize ws.map V.str = vs at *
    rw [ev_fn' tab prim (f := 5) rfl _ _ rfl]
    simp [h1, c1, hA]
  by_cases c2 : ex < 0
  · generalize ws.map V.str = vs at *
    rw [ev_fn' tab prim (f := 5) rfl _ _ rfl]
    simp [h1, c1, c2, hA]
  by_cases c3 : 10100 < ex
  · generalize ws.map V.str = vs at *
    rw [ev_fn' tab prim (f := 5) rfl _ _ rfl]
    simp [h1, c1, c2, c3, hA]
  by_cases c4 : bg < 0
  · generalize ws.map V.str = vs at *
    rw [ev_fn' tab prim (f := 5) rfl _ _ rfl]
    simp [h1, c1, c2, c3, c4, hA]
  by_cases c5 : 300000 < bg
  · generalize ws.map V.str = vs at *
    rw [ev_fn' tab prim (f := 5) rfl _ _ rfl]
    simp [h1, c1, c2, c3, c4, c5, hA]
  obtain ⟨x, rfl⟩ : ∃ x : Nat, ex = x := ⟨ex.toNat, by omega⟩
  obtain ⟨y, rfl⟩ : ∃ y : Nat, bg = y := ⟨bg.toNat, by omega⟩
  have hT := totF_ge 500 ws 0 (Int.le_refl _) (by omega) (by omega) (by omega)
  have d1 := glue_len ws
  have d2 := tot_count ws
  have hO := ln_out ws x y (by omega) (by omega)
  unfold lnE at hO
  by_cases hq : ∀ w ∈ ws, (10 : UInt8) ∉ w
  · rw [if_pos hq] at hO
    have hE := ln_ex (ws.map V.str) x y (glue ws) (by omega) (by omega)
    have hB := ln_bg (ws.map V.str) x y (glue ws ++ List.replicate x 10) (by omega) (by simp; omega)
    have hu := unbyte_map (glue ws ++ List.replicate x 10 ++ List.replicate y 120)
    have hlt : (glue ws ++ List.replicate x 10 ++ List.replicate y 120 : List UInt8).length ≤ 1000000 := by simp; omega
    have hS := ev_sSplit _ hlt
    have hR := ev_rSplitText _ hlt
    have hsl : (splitF (glue ws ++ List.replicate x 10 ++ List.replicate y 120)).1.length ≤ 1000000 := by
      unfold splitF
      split
      · simp
      split
      · simp
      · simp only; omega
    rw [← split_eq2] at hR hsl
    have hX1 := ev_Texts1 _ hsl
    have hX2 := ev_Texts2 _ hsl
    have hgl : x = 0 → y = 0 → (splitP (glue ws ++ List.replicate x 10 ++ List.replicate y 120)).2 = 0 → (splitP (glue ws ++ List.replicate x 10 ++ List.replicate y 120)).1 = ws := by
      rintro rfl rfl h
      rw [split_eq2] at h ⊢
      simp at h ⊢
      exact lines_glue hq h
    have hg16 : (glue ws).length ≤ 16777216 := by omega
    clear hsl d1 d2 hT
    generalize hsp : splitP (glue ws ++ List.replicate x 10 ++ List.replicate y 120) = sp at *
    obtain ⟨ls, e⟩ := sp
    dsimp only at *
    generalize glue ws ++ List.replicate x 10 ++ List.replicate y 120 = tt at *
    generalize hbx : (glue ws ++ List.replicate x 10).map byteV = bx at *
    generalize htb : tt.map byteV = tb at *
    have hul : tt.length ≤ 9223372036854775807 := by omega
    have hs2 : ∀ (d : Option Nat) (m : Mem), Prim.s2b.run (ev tab prim) d [.str (glue ws)] m = some (.list 1 ((glue ws).map byteV) true, m) := fun d m => by
      simp [hg16]
    generalize glue ws = gw at *
    by_cases he : e = 0
    · subst he
      by_cases hx0 : x = 0
      · by_cases hy0 : y = 0
        · have hw2 := hgl hx0 hy0 rfl
          subst hw2
          subst hx0 hy0
          generalize ls.map V.str = vs at *
          simp at hO hE hB
          rw [ev_fn' tab prim (f := 5) rfl _ _ rfl]
          simp [-run_s2b, hs2, h1, c1, hO, hE, hB, hu, hul, hS, hR, hX1, hX2, hA]
        · subst hx0
          have g2 : (0 : Int) < (y : Int) := by omega
          have g3 : 0 < y := by omega
          clear hgl
          generalize ls.map V.str = us at *
          generalize ws.map V.str = vs at *
          simp at hO hE hB
          rw [ev_fn' tab prim (f := 5) rfl _ _ rfl]
          simp [-run_s2b, hs2, h1, c1, c4, c5, g2, g3, hO, hE, hB, hu, hul, hS, hR, hX1, hX2, hA]
      · have g2 : (0 : Int) < (x : Int) := by omega
        have g3 : 0 < x := by omega
        clear hgl
        generalize ls.map V.str = us at *
        generalize ws.map V.str = vs at *
        simp at hO hE hB
        rw [ev_fn' tab prim (f := 5) rfl _ _ rfl]
        simp [-run_s2b, hs2, h1, c1, c2, c3, c4, c5, g2, g3, hO, hE, hB, hu, hul, hS, hR, hX1, hX2, hA]
    · have g2 : (e != 0) = true := by simpa using he
      clear hgl
      generalize ls.map V.str = us at *
      generalize ws.map V.str = vs at *
      simp at hO hE hB
      rw [ev_fn' tab prim (f := 5) rfl _ _ rfl]
      simp [-run_s2b, hs2, h1, c1, c2, c3, c4, c5, g2, hO, hE, hB, hu, hul, hS, hR, hX1, hX2, hA]
  · rw [if_neg hq] at hO
    clear d1 d2 hT
    generalize ws.map V.str = vs at *
    simp at hO
    rw [ev_fn' tab prim (f := 5) rfl _ _ rfl]
    simp [h1, c1, c2, c3, c4, c5, hO]

end Go.Proofs.YtpmpofcokkgfdaaDoor.Ev
