/- script.Parse, whole. -/
import Derived.Test.YtpmpofcokkgfdaaGreatDoorUl
namespace Go.Proofs.YtpmpofcokkgfdaaGreatDoor.Ev
open Go

theorem numsR_sh (w : List UInt8) (h : w.length ≤ 50000) : (∀ n ∈ numsR w, -9223372036854775808 ≤ n ∧ n ≤ 9223372036854775807) ∧ (numsR w).length ≤ 100000 := by
  unfold numsR
  split
  · simp
  · refine ⟨fun n hn => ?_, ?_⟩
    · obtain ⟨x, _, rfl⟩ := List.mem_map.1 hn
      exact atoiV_range x
    · rw [List.length_map]
      have := cutB_count 44 w
      omega
theorem readF_sh {o : Sop} (ho : o.Sh) (f : UInt8) (w : List UInt8) (h : w.length ≤ 50000) : (readF f w o).Sh := by
  have hn := numsR_sh w h
  obtain ⟨a, b, n, l, m, ll, ml⟩ := ho
  unfold readF
  split
  · exact ⟨by show w.length ≤ 100000; omega, b, n, l, m, ll, ml⟩
  split
  · exact ⟨a, by show w.length ≤ 100000; omega, n, l, m, ll, ml⟩
  split
  · exact ⟨a, b, atoiV_range w, l, m, ll, ml⟩
  split
  · exact ⟨a, b, n, hn.1, m, hn.2, ml⟩
  · exact ⟨a, b, n, l, hn.1, ll, hn.2⟩
theorem readAll_sh : ∀ (fs : List UInt8) (ws : List (List UInt8)) (o : Sop), o.Sh → (∀ w ∈ ws, w.length ≤ 50000) → (readAll fs ws o).Sh
  | [], _, o, ho, _ => by simpa [readAll] using ho
  | _ :: _, [], o, ho, _ => by simpa [readAll] using ho
  | f :: fs, w :: ws, o, ho, hw => readAll_sh fs ws _ (readF_sh ho f w (hw w (by simp))) fun x hx => hw x (by simp [hx])
theorem zero_sh (k : Int) : (⟨k, [], [], 0, [], []⟩ : Sop).Sh := ⟨by simp, by simp, by show (-9223372036854775808 : Int) ≤ 0 ∧ (0 : Int) ≤ 9223372036854775807; decide, by simp, by simp, by simp, by simp⟩
theorem candP_sh (s : List UInt8) (hs : s.length ≤ 50000) : (candP s).Sh :=
  readAll_sh _ _ _ (zero_sh _) fun w hw => Nat.le_trans (cutB_len 32 s w (List.mem_of_mem_drop hw)) hs

theorem idxF_lt (p : List UInt8 → Bool) : ∀ (l : List (List UInt8)) (i : Int), idxF p l i = -1 ∨ i ≤ idxF p l i ∧ idxF p l i < i + l.length
  | [], i => .inl rfl
  | w :: r, i => by
    unfold idxF
    split
    · exact .inr ⟨Int.le_refl _, by simp; omega⟩
    · rcases idxF_lt p r (i + 1) with h | ⟨h, h2⟩
      · exact .inl h
      · exact .inr ⟨by omega, by simp; omega⟩
theorem kindP_in (w : List UInt8) : kindP w < 1 ∨ kindR (kindP w) = true := by
  unfold kindP
  rcases idxF_lt (fun x => x == w) (kwords.map (·.1)) 0 with h | ⟨h1, h2⟩
  · rw [h]; exact .inl (by decide)
  · generalize idxF (fun x => x == w) (kwords.map (·.1)) 0 = k at *
    have e : (kwords.map (·.1)).length = 16 := rfl
    rw [e] at h2
    by_cases h3 : k < 1
    · exact .inl h3
    · refine .inr ?_
      unfold kindR
      rw [decide_eq_true (by omega : 1 ≤ k), decide_eq_true (by omega : k ≤ 15)]
      rfl

theorem findKParse : findL S6_0 0 = some (.seq .skip K6_0) := by rfl
theorem parse_bad (s : List UInt8) (cs : List V) (k : Int) (a b : List UInt8) (n : Int) (l m : V) (hcs : cs = [.int .i64 k, .str a, .str b, .int .i64 n, l, m]) :
    cj tab prim S6_0 (some (.goto 0, { env := [(2, .ptr 2 2 0)], mem := [[(2, cs)], [], []] })) = some (.ret, { env := [(2, .ptr 2 2 0), (3, .int .i64 7)], mem := [[(2, Sop.zero.cells)], [], []] }) := by
  subst hcs
  rw [cj_g tab prim S6_0 _ 0 findKParse, cv_seq', cv_skip, seqK_n]
  unfold Sop.cells Sop.zero
  simp [K6_0, ints]

def pS (s : List UInt8) : St := { env := [(0, .str s), (2, .ptr 2 2 0)], mem := [[(2, Sop.zero.own)], [], []] }
theorem parse_body (s : List UInt8) (hs : s.length ≤ 50000) : cv tab prim S6_0 (pS s) =
    if sizeOk s = true then (if (candP s).line = s then some (.ret, { env := [(2, .ptr 2 2 0), (3, .int .i64 0)], mem := [[(2, (candP s).cells)], [], []] }) else some (.ret, { env := [(2, .ptr 2 2 0), (3, .int .i64 7)], mem := [[(2, Sop.zero.cells)], [], []] }))
    else some (.goto 0, { env := [(2, .ptr 2 2 0)], mem := [[(2, (⟨kindP ((cutB 32 s).headD []), [], [], 0, [], []⟩ : Sop).own)], [], []] }) := by
  have hSp := ev_SplitB s 32 (by omega) [[], []]
  have hsh := candP_sh s hs
  have hln : ∀ w ∈ cutB 32 s, w.length ≤ 50000 := fun w hw => Nat.le_trans (cutB_len 32 s w hw) hs
  have hcnt := cutB_count 32 s
  obtain ⟨w0, ws, hws⟩ : ∃ w0 ws, cutB 32 s = w0 :: ws := by
    cases h : cutB 32 s with
    | nil => exact absurd h (cutB_ne 32 s)
    | cons a b => exact ⟨a, b, rfl⟩
  have e1 : sizeOk s = (decide (1 ≤ kindP w0) && decide (ws.length = (kfields (kindP w0)).length)) := by
    unfold sizeOk
    rw [hws]
    have : ((w0 :: ws).length = 1 + (kfields (kindP ((w0 :: ws).headD []))).length) ↔ (ws.length = (kfields (kindP w0)).length) := by simp; omega
    simp only [this]
    rfl
  have e2 : candP s = readAll (kfields (kindP w0)) ws ⟨kindP w0, [], [], 0, [], []⟩ := by
    unfold candP
    rw [hws]
    rfl
  have e3 : (cutB 32 s).headD [] = w0 := by rw [hws]; rfl
  rw [e2] at hsh
  rw [e1, e2, e3]
  rw [hws] at hSp hln hcnt
  rw [List.map_cons] at hSp
  clear e1 e2 e3 hws
  have hK := ev_kind w0 (ws.map V.str) [[(2, Sop.zero.own)], [], []]
  have hW := ev_swords
  have hA := asl_table
  have htl : tableV.length = 32 := rfl
  rcases kindP_in w0 with hk | hk
  · rw [decide_eq_false (by omega : ¬ 1 ≤ kindP w0), Bool.false_and, if_neg (by decide)]
    clear hsh
    unfold pS Sop.own Sop.zero at *
    generalize rowsV kwords = rv at *
    generalize tableV = tv at *
    generalize kindP w0 = k at *
    simp [ints] at hK
    simp [ints, S6_0, hSp, hW, hA, hK, hk, htl]
  · have h1 : 1 ≤ kindP w0 := by have := hk; unfold kindR at this; simp at this; exact this.1
    have hnk : ¬ kindP w0 < 1 := by omega
    obtain ⟨q, hq, _, hq2⟩ := kindR_nat hk
    have hT := of_map' tab_ascii hq2
    rw [← hq] at hT
    simp only [Bool.and_eq_true, decide_eq_true_eq] at hT
    have hI := of_map' iaddra_table hq2
    rw [← hq] at hI
    have hfl := hT.1.2
    clear hT
    rw [decide_eq_true h1, Bool.true_and]
    have w1 : IntKind.i64.wrap (1 + ((kfields (kindP w0)).length : Int)) = 1 + ((kfields (kindP w0)).length : Int) := wrap_small (by omega) (by omega)
    by_cases hsz : ws.length = (kfields (kindP w0)).length
    · rw [decide_eq_true hsz, if_pos rfl]
      have hL := pf_loop s (kindP w0) hk ws hsz (fun w hw => hln w (by simp [hw])) ws.length 0 ⟨kindP w0, [], [], 0, [], []⟩ rfl (Nat.zero_le _) rfl
      rw [List.drop_zero, List.drop_zero] at hL
      obtain ⟨M, hTx⟩ := ev_sText _ hsh
      unfold Sop.v at hTx
      have hne : (((ws.length : Int) + 1) != (1 + ((kfields (kindP w0)).length : Int))) = false := by rw [hsz]; simp; omega
      unfold pfSt at hL
      generalize (readAll (kfields (kindP w0)) ws ⟨kindP w0, [], [], 0, [], []⟩) = c at *
      generalize c.line = ln at *
      have hbx : c.own = [.int .i64 c.k, .str c.a, .str c.b, .int .i64 c.n, .list 1 (ints c.l) true, .list 1 (ints c.m) true] := rfl
      have hcx : c.cells = [.int .i64 c.k, .str c.a, .str c.b, .int .i64 c.n, .list 1 (ints c.l) false, .list 1 (ints c.m) false] := rfl
      rw [hbx] at hL
      rw [hcx] at hTx ⊢
      unfold pS Sop.own Sop.cells Sop.zero at *
      dsimp only at *
      generalize rowsV kwords = rv at *
      generalize tableV.drop (q * 2 + 2) = tr at *
      generalize tableV = tv at *
      generalize kfields (kindP w0) = fs at *
      generalize kword (kindP w0) = kw at *
      generalize kindP w0 = k at *
      simp only [Int.cast_ofNat_Int] at hL
      have hln1 : (1 : Int) ≤ (ws.length : Int) + 1 := by omega
      have hln2 : (1 : Int) ≤ 1 + (fs.length : Int) := by omega
      have htk : (ws.map V.str).take ws.length = ws.map V.str := List.take_of_length_le (by simp)
      have hi0 : ints [] = [] := rfl
      simp [hi0] at hK hL
      simp at hne
      by_cases hlq : ln = s
      · rw [if_pos hlq]
        have hlq' : (ln == s) = true := by simpa using hlq
        simp [-rIaddra, hi0, S6_0, K6_0, hSp, hW, hA, hK, hnk, htl, hI, iaddra_1, w1, hne, hln1, hln2, htk, hL, hTx, hlq']
      · rw [if_neg hlq]
        have hlq' : (ln == s) = false := by simpa using hlq
        simp [-rIaddra, hi0, S6_0, K6_0, hSp, hW, hA, hK, hnk, htl, hI, iaddra_1, w1, hne, hln1, hln2, htk, hL, hTx, hlq']
    · rw [decide_eq_false hsz, if_neg (by decide)]
      have hne : (((ws.length : Int) + 1) != (1 + ((kfields (kindP w0)).length : Int))) = true := by rw [bne_iff_ne]; omega
      clear hsh
      unfold pS Sop.own Sop.zero at *
      generalize rowsV kwords = rv at *
      generalize tableV.drop (q * 2 + 2) = tr at *
      generalize tableV = tv at *
      generalize kfields (kindP w0) = fs at *
      generalize kword (kindP w0) = kw at *
      generalize kindP w0 = k at *
      simp [ints] at hK
      simp [-rIaddra, ints, S6_0, hSp, hW, hA, hK, hnk, htl, hI, iaddra_1, w1, hne]

theorem ev_Parse (s : List UInt8) (hs : s.length ≤ 50000) : ev tab prim 6 [.str s] [[], []] = some (.tup [(parseP s).1.v, .int .i64 (parseP s).2], [[], []]) := by
  have hb := parse_body s hs
  have hz := parse_bad s (⟨kindP ((cutB 32 s).headD []), [], [], 0, [], []⟩ : Sop).own _ _ _ _ _ _ rfl
  have hi0 : ints [] = [] := rfl
  have hx : ∀ c : Sop, c.cells = [.int .i64 c.k, .str c.a, .str c.b, .int .i64 c.n, .list 1 (ints c.l) false, .list 1 (ints c.m) false] := fun _ => rfl
  have hpS : pS s = { env := [(0, .str s), (2, .ptr 2 2 0)], mem := [[(2, [.int .i64 0, .str [], .str [], .int .i64 0, .list 1 [] true, .list 1 [] true])], [], []] } := rfl
  rw [hpS] at hb
  have hzc : Sop.zero.cells = [.int .i64 0, .str [], .str [], .int .i64 0, .list 1 [] false, .list 1 [] false] := rfl
  rw [hzc] at hb hz
  unfold parseP
  generalize (⟨kindP ((cutB 32 s).headD []), [], [], 0, [], []⟩ : Sop).own = own at *
  cases h1 : sizeOk s with
  | false =>
    rw [h1, if_neg (by decide)] at hb
    rw [Bool.false_and]
    unfold Sop.v
    rw [cond_false, hzc, ev_fn' tab prim (f := 6) rfl _ _ rfl]
    simp [hb, hz]
  | true =>
    rw [h1, if_pos rfl] at hb
    rw [Bool.true_and]
    by_cases h2 : (candP s).line = s
    · rw [if_pos h2, hx] at hb
      have h2' : ((candP s).line == s) = true := by simpa using h2
      rw [h2', cond_true]
      unfold Sop.v
      rw [hx, ev_fn' tab prim (f := 6) rfl _ _ rfl]
      simp [hb]
    · rw [if_neg h2] at hb
      have h2' : ((candP s).line == s) = false := by simpa using h2
      rw [h2', cond_false]
      unfold Sop.v
      rw [hzc, ev_fn' tab prim (f := 6) rfl _ _ rfl]
      simp [hb]

end Go.Proofs.YtpmpofcokkgfdaaGreatDoor.Ev
