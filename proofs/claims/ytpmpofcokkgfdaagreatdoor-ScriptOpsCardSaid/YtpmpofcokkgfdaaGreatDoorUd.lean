/- strings.ContainsAny(s, " \n"): is a blank, or an end of a line, in a text. -/
import Derived.Test.YtpmpofcokkgfdaaGreatDoorGb
import Derived.Test.YtpmpofcokkgfdaaGreatDoorUa
import Derived.Laws.RangeAny
namespace Go.Proofs.YtpmpofcokkgfdaaGreatDoor.Ev
open Go


theorem ev_IdxByte (s : List UInt8) (c : Int) (m : Mem) : ev tab prim 91 [.str s, .int .u8 c] m = some (.int .i64 (Lib.indexByte s c.toNat.toUInt8), m) := by
  rw [ev_prim tab prim rfl]
  rfl

theorem ib_tab : (List.range 128).map (fun n : Nat => decide (0 ≤ Lib.indexByte [32, 10] n.toUInt8)) = (List.range 128).map (fun n : Nat => n == 32 || n == 10) := by kernel_rfl

theorem ev_ValidRune (r : Int) (h0 : 0 ≤ r) : ev tab prim 92 [.int .i32 r] [[], []] = some (.bool (Utf8.valid r), [[], []]) := by
  rw [ev_fn' tab prim (f := 92) rfl _ _ rfl]
  unfold Utf8.valid
  by_cases h1 : r < 55296
  · have h2 : (0 : Int) ≤ r := h0
    simp [h1, h2]
  · have h1' : ¬ r < 0xD800 := h1
    by_cases h2 : 57343 < r
    · by_cases h3 : r ≤ 1114111
      · have h4 : 57344 ≤ r := by omega
        simp [h0, h1, h2, h3, h4]
      · simp [h0, h1, h2, h3]
    · have h4 : ¬ 57344 ≤ r := by omega
      simp [h0, h1, h2, h4]

theorem dec0 : Utf8.decode ⟨#[32, 10]⟩ 0 = (32, 1) := by decide +kernel
theorem dec1 : Utf8.decode ⟨#[32, 10]⟩ 1 = (10, 1) := by decide +kernel

set_option maxRecDepth 100000 in
theorem ev_IndexRune (r : Int) (h0 : 0 ≤ r) (hr : r ≤ 2147483647) : ∃ k M, ev tab prim 78 [.str [32, 10], .int .i32 r] [[], []] = some (.int .i64 k, M) ∧ decide (0 ≤ k) = (r == 32 || r == 10) := by
  by_cases h1 : r < 128
  · have hw : IntKind.u8.wrap r = r := by rw [wrap_u8b]; omega
    have hb := ev_IdxByte [32, 10] r [[], []]
    refine ⟨Lib.indexByte [32, 10] r.toNat.toUInt8, [[], []], ?_, ?_⟩
    rotate_left
    · obtain ⟨n, rfl⟩ : ∃ n : Nat, r = n := ⟨r.toNat, by omega⟩
      have := of_map ib_tab (show n < 128 by omega)
      rw [Int.toNat_natCast]
      rw [this]
      have e1 : ((n : Int) == 32) = (n == 32) := by rw [Bool.eq_iff_iff]; simp; omega
      have e2 : ((n : Int) == 10) = (n == 10) := by rw [Bool.eq_iff_iff]; simp; omega
      rw [e1, e2]
    · rw [ev_fn' tab prim (f := 78) rfl _ _ rfl]
      simp [h0, h1, hw, hb]
  have hf : (r == 32 || r == 10) = false := by simp; omega
  rw [hf]
  by_cases h2 : r = 65533
  · subst h2
    refine ⟨-1, [[(0, [.siter [32, 10] 2])], []], ?_, by decide⟩
    rw [ev_fn' tab prim (f := 78) rfl _ _ rfl]
    simp
    rw [cv_loop']
    simp [L78_0, dec0]
    rw [cv_loop']
    simp [L78_0, dec1]
    rw [cv_loop']
    simp [L78_0]
  have hv := ev_ValidRune r h0
  have h2' : (r == 65533) = false := by simpa using h2
  cases hv' : Utf8.valid r with
  | false =>
    rw [hv'] at hv
    refine ⟨-1, [[], []], ?_, by decide⟩
    rw [ev_fn' tab prim (f := 78) rfl _ _ rfl]
    simp [h0, h1, h2', hv]
  | true =>
    rw [hv'] at hv
    obtain ⟨g1, g2, g3⟩ := encode_facts r hv' (by omega)
    have g4 := g3 (by omega)
    have hsz : (Utf8.encode r).size = (Utf8.encode r).data.toList.length := by
      show (Utf8.encode r).data.size = _
      rw [Array.length_toList]
    have g5 : ∃ b : UInt8, (Utf8.encode r).data.toList[(Utf8.encode r).data.toList.length - 1]? = some b ∧ 128 ≤ b.toNat := by
      refine ⟨(Utf8.encode r)[(Utf8.encode r).size - 1]'(by omega), ?_, g4⟩
      rw [← hsz]
      simp [ByteArray.getElem_eq_getElem_data]
    rw [hsz] at g1 g2
    clear g3 g4 hsz
    have hs : ∀ m d, Prim.i2s.run (ev tab prim) d [.int .i32 r] m = some (.str (Utf8.encode r).data.toList, m) := fun _ _ => rfl
    generalize (Utf8.encode r).data.toList = rs at *
    obtain ⟨b, g5, g6⟩ := g5
    have e1 : IntKind.i64.wrap ((rs.length : Int) - 1) = ((rs.length - 1 : Nat) : Int) := by rw [wrap_small] <;> omega
    refine ⟨-1, [[], []], ?_, by decide⟩
    have hS : cv tab prim S78_2 { env := [(0, .str [32, 10]), (1, .int .i32 r)], mem := [[], [], []] } = some (.ret, { env := [(4, .int .i64 (-1))], mem := [[], [], []] }) := by
      conv => lhs; unfold S78_2
      simp [-run_i2s, hs, e1]
      rw [cv_loop']
      by_cases hn : rs.length = 2
      · have e3 : ((10 : Int) != (b.toNat : Int)) = true := by simp; omega
        obtain ⟨p, rfl⟩ : ∃ p, rs = [p, b] := by
          match rs, hn, g5 with
          | [p, q], _, h => exact ⟨p, by simpa using h⟩
        have hb := ev_IdxByte [] (b.toNat : Int) [[], []]
        have e5 : Lib.indexByte [] ((b.toNat : Int).toNat.toUInt8) = -1 := rfl
        rw [e5] at hb
        have hS0 : cv tab prim S78_0 { env := [(0, .str [32, 10]), (1, .int .i32 r), (7, .str [p, b]), (8, .int .i64 1), (9, .int .i64 1), (10, .int .i64 0)], mem := [[], [], []] } = some (.ret, { env := [(4, .int .i64 (-1))], mem := [[], [], []] }) := by
          conv => lhs; unfold S78_0
          have w2 : IntKind.i64.wrap 2 = 2 := by decide
          simp [idxOk, e3, hb, w2]
        simp [L78_2, hS0]
      · have e2 : ¬ ((rs.length - 1 : Nat) : Int) < 2 := by omega
        simp [L78_2, e2]
    rw [ev_fn' tab prim (f := 78) rfl _ _ rfl]
    simp [h0, h1, h2', hv, hS]

theorem ba_get (s : List UInt8) (j : Nat) : (⟨s.toArray⟩ : ByteArray).get! j = s.getD j 0 := by
  show s.toArray[j]! = _
  rw [List.getD_eq_getElem?_getD, getElem!_def]
  simp only [List.getElem?_toArray]
  cases s[j]? <;> rfl
theorem ba_size (s : List UInt8) : (⟨s.toArray⟩ : ByteArray).size = s.length := by simp [ByteArray.size]

/-- What a rune is at a byte that is none by itself. -/
theorem dec_wide (s : List UInt8) (pos : Nat) (hp : pos < s.length) (hb : ¬ (s.getD pos 0).toNat < 128) :
    128 ≤ (Utf8.decode ⟨s.toArray⟩ pos).1 ∧ 1 ≤ (Utf8.decode ⟨s.toArray⟩ pos).2 ∧ pos + (Utf8.decode ⟨s.toArray⟩ pos).2 ≤ s.length ∧ ∀ k, k < (Utf8.decode ⟨s.toArray⟩ pos).2 → ¬ (s.getD (pos + k) 0).toNat < 128 := by
  have h0 : ∀ k, k < 1 → ¬ (s.getD (pos + k) 0).toNat < 128 := fun k hk => by
    have : k = 0 := by omega
    subst this; exact hb
  have hre : 128 ≤ Utf8.runeError := by decide
  unfold Utf8.decode
  simp only [ba_get, ba_size, Nat.add_zero, hb, if_false]
  repeat' split
  all_goals first
    | exact ⟨hre, Nat.le_refl _, hp, h0⟩
    | skip
  all_goals
    rename_i h1 h2
    simp only [Bool.and_eq_true, decide_eq_true_eq, beq_iff_eq] at h1 h2
  · refine ⟨by omega, by omega, by omega, fun k hk => ?_⟩
    rcases (by omega : k = 0 ∨ k = 1) with rfl | rfl
    · exact hb
    · omega
  · refine ⟨by omega, by omega, by omega, fun k hk => ?_⟩
    rcases (by omega : k = 0 ∨ k = 1 ∨ k = 2) with rfl | rfl | rfl
    · exact hb
    · omega
    · omega
  · refine ⟨by omega, by omega, by omega, fun k hk => ?_⟩
    rcases (by omega : k = 0 ∨ k = 1 ∨ k = 2 ∨ k = 3) with rfl | rfl | rfl | rfl
    · exact hb
    · omega
    · omega
    · omega
theorem dec_byte (s : List UInt8) (pos : Nat) (hb : (s.getD pos 0).toNat < 128) : Utf8.decode ⟨s.toArray⟩ pos = ((s.getD pos 0).toNat, 1) := by
  unfold Utf8.decode
  simp only [ba_get, ba_size, Nat.add_zero, hb, if_true]

theorem any_drop (s : List UInt8) (pos : Nat) (hp : pos < s.length) : (s.drop pos).any isSep = (isSep (s.getD pos 0) || (s.drop (pos + 1)).any isSep) := by
  rw [List.drop_eq_getElem_cons hp, List.any_cons]
  simp [List.getD_eq_getElem?_getD, hp]
theorem any_skip (s : List UInt8) : ∀ (w pos : Nat), pos + w ≤ s.length → (∀ k, k < w → ¬ (s.getD (pos + k) 0).toNat < 128) → (s.drop pos).any isSep = (s.drop (pos + w)).any isSep
  | 0, _, _, _ => rfl
  | w + 1, pos, hl, h => by
    rw [any_drop s pos (by omega), any_skip s w (pos + 1) (by omega) (fun k hk => by have := h (k + 1) (by omega); rwa [show pos + 1 + k = pos + (k + 1) by omega])]
    have h0 := h 0 (by omega)
    rw [Nat.add_zero] at h0
    have : isSep (s.getD pos 0) = false := by
      unfold isSep
      generalize s.getD pos 0 = b at *
      rw [Bool.or_eq_false_iff]
      refine ⟨beq_eq_false_iff_ne.2 ?_, beq_eq_false_iff_ne.2 ?_⟩ <;> rintro rfl <;> exact h0 (by decide)
    rw [this, Bool.false_or, show pos + 1 + w = pos + (w + 1) by omega]

def raSt (s : List UInt8) (pos : Nat) : St := { env := [(1, .str [32, 10]), (45, .iref 0)], mem := [[], [(0, [.siter s pos])], []] }

theorem runeLoop (s : List UInt8) : ∀ (n pos : Nat), s.length - pos = n → pos ≤ s.length →
    if (s.drop pos).any isSep = true then ∃ (k : Nat) (m : Mem), cv tab prim (.loop L62_1) (raSt s pos) = some (.ret, { env := [(4, .int .i64 k)], mem := [] :: m })
    else ∃ m, cv tab prim (.loop L62_1) (raSt s pos) = some (.exit 2, { env := [], mem := [] :: m }) := by
  intro n
  induction n using Nat.strongRecOn with
  | ind n ih =>
    intro pos hn hp
    by_cases hlt : pos < s.length
    · -- a rune
      have hr := decode_le ⟨s.toArray⟩ pos
      obtain ⟨k, M, hk1, hk2⟩ := ev_IndexRune ((Utf8.decode ⟨s.toArray⟩ pos).1 : Int) (by omega) (by omega)
      have step : ∀ r : Bool, decide (0 ≤ k) = r → cv tab prim (.loop L62_1) (raSt s pos) = if r = true then some (.ret, { env := [(4, .int .i64 pos)], mem := [[], [(0, [.siter s (pos + (Utf8.decode ⟨s.toArray⟩ pos).2)])], []] }) else cv tab prim (.loop L62_1) (raSt s (pos + (Utf8.decode ⟨s.toArray⟩ pos).2)) := by
        intro r hr'
        rw [cv_loop']
        obtain ⟨d, hd⟩ : ∃ d, Utf8.decode ⟨s.toArray⟩ pos = d := ⟨_, rfl⟩
        rw [hd] at hk1 ⊢
        unfold raSt
        cases r with
        | true =>
          have h0 : 0 ≤ k := of_decide_eq_true hr'
          simp [L62_1, hlt, hd, hk1, h0]
        | false =>
          have h0 : ¬ 0 ≤ k := of_decide_eq_false hr'
          simp [L62_1, hlt, hd, hk1, h0]
      by_cases hb : (s.getD pos 0).toNat < 128
      · have hd := dec_byte s pos hb
        rw [hd] at hk2 step
        have e1 : (((s.getD pos 0).toNat : Int) == 32 || ((s.getD pos 0).toNat : Int) == 10) = isSep (s.getD pos 0) := by
          unfold isSep
          generalize s.getD pos 0 = b
          have e1 : ((b.toNat : Int) == 32) = (b == 32) := by
            rw [Bool.eq_iff_iff, beq_iff_eq, beq_iff_eq]
            refine ⟨fun h => UInt8.toNat_inj.1 ?_, fun h => by rw [h]; rfl⟩
            show b.toNat = 32
            omega
          have e2 : ((b.toNat : Int) == 10) = (b == 10) := by
            rw [Bool.eq_iff_iff, beq_iff_eq, beq_iff_eq]
            refine ⟨fun h => UInt8.toNat_inj.1 ?_, fun h => by rw [h]; rfl⟩
            show b.toNat = 10
            omega
          rw [e1, e2]
        rw [e1] at hk2
        have hst := step _ hk2
        rw [any_drop s pos hlt, hst]
        cases hs : isSep (s.getD pos 0) with
        | true =>
          rw [Bool.true_or, if_pos rfl, if_pos rfl]
          exact ⟨pos, _, rfl⟩
        | false =>
          rw [Bool.false_or]
          simp only [Bool.false_eq_true, if_false]
          exact ih (s.length - (pos + 1)) (by omega) (pos + 1) rfl (by omega)
      · obtain ⟨w1, w2, w3, w4⟩ := dec_wide s pos hlt hb
        have e1 : (((Utf8.decode ⟨s.toArray⟩ pos).1 : Int) == 32 || ((Utf8.decode ⟨s.toArray⟩ pos).1 : Int) == 10) = false := by
          rw [Bool.or_eq_false_iff]
          exact ⟨beq_eq_false_iff_ne.2 (by omega), beq_eq_false_iff_ne.2 (by omega)⟩
        rw [e1] at hk2
        have hst := step _ hk2
        rw [if_neg Bool.false_ne_true] at hst
        rw [any_skip s _ pos w3 w4, hst]
        exact ih (s.length - (pos + (Utf8.decode ⟨s.toArray⟩ pos).2)) (by omega) _ rfl w3
    · have : pos = s.length := by omega
      subst this
      rw [List.drop_length, if_neg (by simp)]
      refine ⟨[[(0, [.siter s s.length])], []], ?_⟩
      rw [cv_loop']
      simp [raSt, L62_1]

/-! ### Longer texts: a set of bytes -/
def asc : List V := (List.range 256).map fun n : Nat => .bool (n == 32 || n == 10)
theorem asc_len : asc.length = 256 := by simp [asc]
theorem ev_makeSet : ev tab prim 57 [.str [32, 10]] [[], []] = some (.tup [.agg asc, .bool true], [[], []]) := ev_of_fuel 30 (by kernel_rfl)
theorem asc_at (b : UInt8) : asc.drop b.toNat = .bool (isSep b) :: asc.drop (b.toNat + 1) := by
  have hb := b.toNat_lt
  rw [List.drop_eq_getElem_cons (by rw [asc_len]; omega)]
  congr 1
  unfold asc isSep
  simp only [List.getElem_map, List.getElem_range]
  have e1 : (b.toNat == 32) = (b == 32) := by
    rw [Bool.eq_iff_iff, beq_iff_eq, beq_iff_eq]
    exact ⟨fun h => UInt8.toNat_inj.1 h, fun h => by rw [h]; rfl⟩
  have e2 : (b.toNat == 10) = (b == 10) := by
    rw [Bool.eq_iff_iff, beq_iff_eq, beq_iff_eq]
    exact ⟨fun h => UInt8.toNat_inj.1 h, fun h => by rw [h]; rfl⟩
  rw [e1, e2]

def ascM : Mem := [[(6, asc)], [], []]
theorem ev_contains (b : UInt8) : ev tab prim 75 [.ptr 2 6 0, byteV b] ascM = some (.bool (isSep b), ascM) := by
  have hb := b.toNat_lt
  have h1 : idxOk (b.toNat : Int) 256 = true := by simp [idxOk]; omega
  have h2 := asc_at b
  unfold ascM byteV
  generalize asc = cs at *
  rw [ev_fn' tab prim (f := 75) rfl _ _ rfl]
  simp [h1, h2]

theorem setLoop (s : List UInt8) (hl : s.length ≤ 1000000) : if s.any isSep = true then ∃ k : Nat, cv tab prim (.loop L62_0) { env := [(0, .str s), (6, .ptr 2 6 0), (8, .int .i64 0)], mem := ascM } = some (.ret, { env := [(4, .int .i64 k)], mem := ascM })
      else cv tab prim (.loop L62_0) { env := [(0, .str s), (6, .ptr 2 6 0), (8, .int .i64 0)], mem := ascM } = some (.exit 0, { env := [], mem := ascM }) := by
  have go : ∀ n i, s.length - i = n → i ≤ s.length →
      if (s.drop i).any isSep = true then ∃ k : Nat, cv tab prim (.loop L62_0) { env := [(0, .str s), (6, .ptr 2 6 0), (8, .int .i64 i)], mem := ascM } = some (.ret, { env := [(4, .int .i64 k)], mem := ascM })
      else cv tab prim (.loop L62_0) { env := [(0, .str s), (6, .ptr 2 6 0), (8, .int .i64 i)], mem := ascM } = some (.exit 0, { env := [], mem := ascM }) := by
    intro n
    induction n with
    | zero =>
      intro i hn hi
      have : i = s.length := by omega
      subst this
      rw [List.drop_length, if_neg (by simp), cv_loop']
      simp [L62_0, ascM]
    | succ n ih =>
      intro i hn hi
      have hlt : i < s.length := by omega
      have hc := ev_contains s[i]
      have hw : IntKind.i64.wrap ((i : Int) + 1) = ((i + 1 : Nat) : Int) := by rw [wrap_small] <;> omega
      have h1 : (i : Int) < (s.length : Int) := by omega
      have h3 : s[i]? = some s[i] := by simp [hlt]
      have hgd : s.getD i 0 = s[i] := by simp [List.getD_eq_getElem?_getD, hlt]
      rw [any_drop s i hlt, hgd]
      have hi' := ih (i + 1) (by omega) (by omega)
      unfold byteV at hc
      unfold ascM at hc hi' ⊢
      rw [cv_loop']
      cases hs : isSep s[i] with
      | true =>
        rw [hs] at hc
        rw [Bool.true_or, if_pos rfl]
        refine ⟨i, ?_⟩
        simp [L62_0, hlt, idxOk, hc]
      | false =>
        rw [hs] at hc
        rw [Bool.false_or]
        simp [L62_0, hlt, idxOk, hc, hw]
        simpa [L62_0] using hi'
  have h := go s.length 0 rfl (by omega)
  rw [List.drop_zero] at h
  exact h

set_option maxRecDepth 100000 in
theorem ev_IndexAny (s : List UInt8) (hl : s.length ≤ 1000000) : ∃ (k : Int) (m : Mem), ev tab prim 62 [.str s, .str [32, 10]] [[], []] = some (.int .i64 k, m) ∧ decide (0 ≤ k) = s.any isSep := by
  have h48 : ev tab prim 79 [.int .i64 s.length] [[], []] = some (.bool (decide (8 < s.length)), [[], []]) := by
    rw [ev_fn' tab prim (f := 79) rfl _ _ rfl]
    have : decide ((8 : Int) < s.length) = decide (8 < s.length) := by rw [decide_eq_decide]; omega
    simp [this]
  by_cases h8 : 8 < s.length
  · rw [decide_eq_true h8] at h48
    have hm := ev_makeSet
    have hal := asc_len
    have haok : asc.all okc = true := by kernel_rfl
    have hadc : asc.all (dataCell 2) = true := by kernel_rfl
    have hs1 := setLoop s hl
    unfold ascM at hs1
    have hz : ∀ z : List V, z.length = 256 → spliceAt 0 asc z = asc := fun z hz => by simp [spliceAt, hal, hz]
    generalize asc = cs at *
    cases ha : s.any isSep with
    | true =>
      rw [if_pos ha] at hs1
      obtain ⟨k, hk⟩ := hs1
      refine ⟨k, [[], []], ?_, by simp⟩
      rw [ev_fn' tab prim (f := 62) rfl _ _ rfl]
      simp only [List.all_eq_true] at hadc
      simp [h48, hm, hal, -dataCell, (show dataCell 2 (.bool false) = true from rfl)]
      rw [if_pos hadc]
      simp [hk]
    | false =>
      rw [if_neg (by rw [ha]; decide)] at hs1
      refine ⟨-1, [[], []], ?_, by simp⟩
      rw [ev_fn' tab prim (f := 62) rfl _ _ rfl]
      simp only [List.all_eq_true] at hadc
      simp [h48, hm, hal, -dataCell, (show dataCell 2 (.bool false) = true from rfl)]
      rw [if_pos hadc]
      simp [hs1]
  · rw [decide_eq_false h8] at h48
    have h := runeLoop s s.length 0 rfl (Nat.zero_le _)
    rw [List.drop_zero] at h
    unfold raSt at h
    cases ha : s.any isSep with
    | true =>
      rw [if_pos ha] at h
      obtain ⟨k, m, hk⟩ := h
      refine ⟨k, m, ?_, by simp⟩
      rw [ev_fn' tab prim (f := 62) rfl _ _ rfl]
      simp [h48, hk]
    | false =>
      rw [if_neg (by rw [ha]; decide)] at h
      obtain ⟨m, hk⟩ := h
      refine ⟨-1, m, ?_, by simp⟩
      rw [ev_fn' tab prim (f := 62) rfl _ _ rfl]
      simp [h48, hk]

theorem ev_ContainsAny (s : List UInt8) (hl : s.length ≤ 1000000) : ev tab prim 43 [.str s, .str [32, 10]] [[], []] = some (.bool (s.any isSep), [[], []]) := by
  obtain ⟨k, m, h1, h2⟩ := ev_IndexAny s hl
  rw [← h2]
  rw [ev_fn' tab prim (f := 43) rfl _ _ rfl]
  simp [h1]

end Go.Proofs.YtpmpofcokkgfdaaGreatDoor.Ev
