/- The law of keys. -/
import Derived.Test.YtgggjclhadlncaaFs
namespace Go.Proofs.Ytgggjclhadlncaa.Ev
open Go

theorem allOk_chars : ∀ (s : List UInt8) (i : Nat), allOk i s = true → ∀ b ∈ s, b ≠ 46 ∧ b ≠ 40
  | [], _, _ => by simp
  | a :: r, i, h => by
    unfold allOk at h
    rw [Bool.and_eq_true] at h
    intro b hb
    rcases List.mem_cons.1 hb with rfl | hb
    · constructor
      · rintro rfl; revert h; simp [okB, lett]
      · rintro rfl; revert h; simp [okB, lett]
    · exact allOk_chars r (i + 1) h.2 b hb
theorem name_chars {s : List UInt8} (h : nameOk s = true) : ∀ b ∈ s, b ≠ 46 ∧ b ≠ 40 := by
  unfold nameOk at h
  rw [Bool.and_eq_true, Bool.and_eq_true] at h
  exact allOk_chars s 0 h.1.1
theorem mname_chars {s : List UInt8} (h : mnameOk s = true) : ∀ b ∈ s, b ≠ 40 := by
  unfold mnameOk at h
  rw [Bool.or_eq_true, Bool.or_eq_true] at h
  rcases h with h | h | h
  · rw [eq_of_beq h]; decide
  · rw [eq_of_beq h]; decide
  · exact fun b hb => (name_chars h b hb).2

theorem idx_first {c : UInt8} {r : List UInt8} : ∀ {l : List UInt8}, (∀ b ∈ l, b ≠ c) → Lib.indexByte (l ++ c :: r) c = (l.length : Int) := by
  intro l
  induction l with
  | nil => intro _; simp [Lib.indexByte]
  | cons a l ih =>
    intro h
    have h1 := ih fun b hb => h b (List.mem_cons_of_mem _ hb)
    have h2 := h a (List.mem_cons_self ..)
    have h3 : ¬ (l.length : Int) = -1 := by omega
    simp [Lib.indexByte, h1, h2, h3]

theorem key_back {c n d : List UInt8} (h : keyV c n d ≠ []) : splitV (keyV c n d) = .tup [.str c, .str n, .str d, .int .i64 0] := by
  have hk : keyV c n d = c ++ 46 :: (n ++ d) := by
    unfold keyV at h ⊢; split at h
    · rename_i hh; rw [if_pos hh]
    · exact absurd rfl h
  have hh : methOk d = true ∧ nameOk c = true ∧ mnameOk n = true := by
    unfold keyV at h; split at h
    · rename_i hh; simpa using hh
    · exact absurd rfl h
  obtain ⟨hd, hc, hn⟩ := hh
  obtain ⟨d', rfl⟩ : ∃ d', d = 40 :: d' := by
    unfold methOk at hd
    rw [Bool.and_eq_true] at hd
    cases d with
    | nil => simp [cut] at hd
    | cons a r =>
      by_cases ha : a = 40
      · exact ⟨r, by rw [ha]⟩
      · simp [cut, ha] at hd
  have i46 : Lib.indexByte (c ++ 46 :: (n ++ 40 :: d')) 46 = (c.length : Int) := idx_first fun b hb => (name_chars hc b hb).1
  have i40 : Lib.indexByte (c ++ 46 :: (n ++ 40 :: d')) 40 = ((c.length + 1 + n.length : Nat) : Int) := by
    have e : c ++ 46 :: (n ++ 40 :: d') = (c ++ 46 :: n) ++ 40 :: d' := by simp
    rw [e, idx_first]
    · simp; omega
    · intro b hb
      rcases List.mem_append.1 hb with hb | hb
      · exact (name_chars hc b hb).2
      · rcases List.mem_cons.1 hb with rfl | hb
        · decide
        · exact mname_chars hn b hb
  have t1 : (c ++ 46 :: (n ++ 40 :: d')).take c.length = c := List.take_left
  have e2 : c ++ 46 :: (n ++ 40 :: d') = (c ++ 46 :: n) ++ 40 :: d' := by simp
  have ln : (c ++ 46 :: n).length = c.length + 1 + n.length := by simp; omega
  have t2 : (c ++ 46 :: (n ++ 40 :: d')).take (c.length + 1 + n.length) = c ++ 46 :: n := by rw [e2, ← ln]; exact List.take_left
  have t3 : (c ++ 46 :: (n ++ 40 :: d')).drop (c.length + 1 + n.length) = 40 :: d' := by rw [e2, ← ln]; exact List.drop_left
  have t4 : (c ++ 46 :: n).drop (c.length + 1) = n := by
    have e3 : c ++ 46 :: n = (c ++ [46]) ++ n := by simp
    have l3 : (c ++ [46]).length = c.length + 1 := by simp
    rw [e3, ← l3]; exact List.drop_left
  rw [hk]
  unfold splitV
  rw [i46, i40, Int.toNat_natCast, Int.toNat_natCast, t1, t2, t3, t4, if_neg]
  rintro (h1 | h1 | h1)
  · omega
  · omega
  · exact h h1

theorem splitV_parts (s : List UInt8) : ∃ x y z e, splitV s = .tup [.str x, .str y, .str z, .int .i64 e] := by
  unfold splitV; split <;> exact ⟨_, _, _, _, rfl⟩

theorem sumLoop2 (xs : List Int) (hl : xs.length ≤ 1000) (hx0 : ∀ x ∈ xs, 0 ≤ x) : ∀ (k i : Nat) (n : Int), i + k = xs.length → 0 ≤ n →
    cv tab prim (.loop L18_0) { env := [(0, .int .i64 n), (1, .list 1 (ints xs) false), (5, .int .i64 (i : Int))], mem := [[]] } = some (.ret, { env := [(4, .int .i64 1099511627776)], mem := [[]] }) ∨
    ∃ n', cv tab prim (.loop L18_0) { env := [(0, .int .i64 n), (1, .list 1 (ints xs) false), (5, .int .i64 (i : Int))], mem := [[]] } = some (.exit 0, { env := [(0, .int .i64 n')], mem := [[]] }) ∧
      n ≤ n' ∧ ∀ x ∈ xs.drop i, x ≤ n' := by
  intro k
  induction k with
  | zero =>
    intro i n hi _
    right
    have h1 : ¬ (i : Int) < ((ints xs).length : Int) := by simp [ints]; omega
    refine ⟨n, ?_, Int.le_refl _, ?_⟩
    · rw [cv_loop']
      simp [L18_0, h1]
    · rw [List.drop_of_length_le (by omega)]; simp
  | succ k ih =>
    intro i n hi hn
    have h1 : (i : Int) < ((ints xs).length : Int) := by simp [ints]; omega
    have h1' : i < (ints xs).length := by simpa using h1
    have hlt : i < xs.length := by omega
    have hx : (ints xs)[i] = .int .i64 xs[i] := by simp [ints]
    have hx1 := hx0 xs[i] (List.getElem_mem hlt)
    have hw : IntKind.i64.wrap ((i : Int) + 1) = ((i + 1 : Nat) : Int) := by rw [wrap_small (by omega) (by omega)]; omega
    rw [cv_loop']
    by_cases h2 : 1099511627776 < n
    · left
      simp [L18_0, h1, h2]
    · have hws : IntKind.i64.wrap (1099511627776 - n) = 1099511627776 - n := wrap_small (by omega) (by omega)
      by_cases h3 : IntKind.i64.wrap (1099511627776 - n) < xs[i]
      · left
        simp [L18_0, h1, h1', h2, h3, idxOk, hx]
      · have hwa : IntKind.i64.wrap (n + xs[i]) = n + xs[i] := wrap_small (by omega) (by omega)
        have hd : xs.drop i = xs[i] :: xs.drop (i + 1) := List.drop_eq_getElem_cons hlt
        have := ih (i + 1) (IntKind.i64.wrap (n + xs[i])) (by omega) (by omega)
        rw [← hw] at this
        rcases this with h | ⟨n', h, h5, h6⟩
        · left; simpa [L18_0, h1, h1', h2, h3, idxOk, hx] using h
        · right
          refine ⟨n', ?_, by omega, ?_⟩
          · simpa [L18_0, h1, h1', h2, h3, idxOk, hx] using h
          · rw [hd]
            intro x hxm
            rcases List.mem_cons.1 hxm with rfl | hxm
            · omega
            · exact h6 x hxm

theorem ev18' (n : Int) (xs : List Int) (hl : xs.length ≤ 1000) (hn : 0 ≤ n) (hx0 : ∀ x ∈ xs, 0 ≤ x) (own : Bool) : ∃ r, ev tab prim 18 [.int .i64 n, .list 1 (ints xs) own] [] = some (.int .i64 r, []) ∧
    (r ≤ 300 → n ≤ 300 ∧ ∀ x ∈ xs, x ≤ 300) := by
  rw [ev_fn' tab prim (f := 18) rfl _ _ rfl]
  rcases sumLoop2 xs hl hx0 xs.length 0 n (by omega) hn with h | ⟨n', h, h5, h6⟩
  · refine ⟨1099511627776, ?_, by omega⟩
    simp only [Int.natCast_zero] at h
    simp [h]
  · refine ⟨n', ?_, fun hr => ⟨by omega, fun x hx => by have := h6 x (by simpa using hx); omega⟩⟩
    simp only [Int.natCast_zero] at h
    simp [h]

set_option maxHeartbeats 8000000 in
theorem ev5 (c n d k : List UInt8) : ev tab prim 5 [.str c, .str n, .str d, .str k] [] = some (.bool true, []) := by
  rw [ev_fn' tab prim (f := 5) rfl _ _ rfl]
  obtain ⟨r, hr, hb⟩ := ev18' (c.length : Int) [(n.length : Int), (d.length : Int), (k.length : Int)] (by simp) (by omega) (by simp) false
  simp only [ints, List.map_cons, List.map_nil] at hr
  by_cases g : 300 < r
  · simp [hr, g, ev12]
  · obtain ⟨b1, b2⟩ := hb (by omega)
    have b3 := b2 _ (List.mem_cons_self ..)
    have b4 := b2 (d.length : Int) (by simp)
    have b5 := b2 (k.length : Int) (by simp)
    have h19 := ev19 c n d (by omega) (by omega) (by omega)
    have h22 := ev22 c n d (by omega) (by omega) (by omega)
    have h20 := ev20 k (by omega)
    have h21 := ev21 k (by omega)
    obtain ⟨x, y, z, e, hs⟩ := splitV_parts k
    rw [hs] at h20 h21
    by_cases hk : keyV c n d = []
    · rw [hk] at h19 h22
      simp [hr, g, ev12, h19, h22, h20, h21]
    · have hkb := key_back hk
      have hkl : (keyV c n d).length ≤ 100000 := by
        unfold keyV; split <;> simp <;> omega
      have h20' := ev20 (keyV c n d) hkl
      rw [hkb] at h20'
      have hke : (keyV c n d).isEmpty = false := by simpa using hk
      generalize keyV c n d = kk at h19 h22 h20' hke
      simp [hr, g, ev12, h19, h22, h20, h21, hke, h20']

end Go.Proofs.Ytgggjclhadlncaa.Ev
