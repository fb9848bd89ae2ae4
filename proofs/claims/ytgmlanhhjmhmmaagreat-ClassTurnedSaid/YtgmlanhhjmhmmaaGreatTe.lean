/- The law ClassTurned: a class's bytes of which one is turned. -/
import Derived.Test.YtgmlanhhjmhmmaaGreatSe
import Derived.Test.YtgmlanhhjmhmmaaGreatGy
import Derived.Test.YtgmlanhhjmhmmaaGreatGd
namespace Go.Proofs.YtgmlanhhjmhmmaaGreat.Ev
open Go

theorem ev_RoundT (k n : Int) (hn : 0 < n) (hb : n ≤ 1000000) : ev tab prim 15 [.int .i64 k, .int .i64 n] [[], []] = some (.int .i64 (round k n), [[], []]) := by
  rw [ev_fn' tab prim (f := 15) rfl _ _ rfl]
  have h0 : ¬ n = 0 := by omega
  have hr := round_in k n hn
  unfold round at hr ⊢
  by_cases h : k.tmod n < 0
  · rw [if_pos h] at hr ⊢
    have hw : IntKind.i64.wrap (k.tmod n + n) = k.tmod n + n := wrap_small (by omega) (by omega)
    simp [h0, h, hw]
  · rw [if_neg h] at hr ⊢
    simp [h0, h]

theorem bytesT_pos (c : Cls) : 4 < c.bytes.length := by
  unfold Cls.bytes Cls.bytesL
  simp only [List.length_append, beN_len, List.length_cons, List.length_nil]
  omega

/-! Classes that are the same have the same bytes. -/
theorem eqF_eq {α : Type} (f : α → α → Bool) (φ : α → α) (h : ∀ x y, f x y = true → φ x = φ y) : ∀ l k : List α, eqF f l k = true → l.map φ = k.map φ := fun l k he => by
  obtain ⟨h1, h2⟩ := (eqF_iff f l k).1 he
  apply List.ext_getElem (by simp [h1])
  intro i hi hi'
  simp only [List.getElem_map]
  exact h _ _ (h2 i (by simpa using hi) (by simpa using hi'))
theorem Ins.pure_of_same (x y : Ins) (h : x.same y = true) : x.pure = y.pure := by
  simp only [Ins.same, Ev.same, eq6, Bool.and_eq_true, beq_iff_eq] at h
  obtain ⟨h1, h2, h3, h4, h5, h6⟩ := h
  unfold Ins.pure
  rw [h2, h3, h4, h5, h6, h1]
theorem Hnd.eq_of (x y : Hnd) (h : x.eq y = true) : x = y := by
  obtain ⟨f, t, a, c⟩ := x
  obtain ⟨f', t', a', c'⟩ := y
  simp [Hnd.eq] at h
  obtain ⟨rfl, rfl, rfl, rfl⟩ := h
  rfl
theorem Fld.eq_of (x y : Fld) (h : x.eq y = true) : x = y := by
  obtain ⟨n, d, s⟩ := x
  obtain ⟨n', d', s'⟩ := y
  simp [Fld.eq] at h
  obtain ⟨rfl, rfl, rfl⟩ := h
  rfl
theorem Mth.pure_of_same (m k : Mth) (h : m.same k = true) : m.pure = k.pure := by
  simp only [Mth.same, Bool.and_eq_true, beq_iff_eq] at h
  obtain ⟨h1, h2, h3, h4, h5, h6, h7, h8⟩ := h
  have e7 := eqF_eq Ins.same Ins.pure Ins.pure_of_same _ _ h7
  have e8 := eqF_eq Hnd.eq id (fun x y h => Hnd.eq_of x y h) _ _ h8
  rw [List.map_id, List.map_id] at e8
  unfold Mth.pure
  obtain ⟨n, d, s, a, st, lo, code, hs⟩ := m
  obtain ⟨n', d', s', a', st', lo', code', hs'⟩ := k
  dsimp only at *
  rw [h1, h2, h3, h4, h5, h6, e7, e8]
theorem Cls.pure_of_same (c k : Cls) (h : c.same k = true) : c.pure = k.pure := by
  simp only [Cls.same, Bool.and_eq_true, beq_iff_eq] at h
  obtain ⟨h1, h2, h3, h4, h5, h6, h7⟩ := h
  have e5 := eqF_eq (fun x y : List UInt8 => x == y) id (fun x y h => by simpa using h) _ _ h5
  have e6 := eqF_eq Fld.eq id (fun x y h => Fld.eq_of x y h) _ _ h6
  have e7 := eqF_eq Mth.same Mth.pure Mth.pure_of_same _ _ h7
  rw [List.map_id, List.map_id] at e5 e6
  unfold Cls.pure
  obtain ⟨n, s, i, a, im, fs, ms⟩ := c
  obtain ⟨n', s', i', a', im', fs', ms'⟩ := k
  dsimp only at *
  rw [h1, h2, h3, h4, e5, e6, e7]
theorem eqF_mapT {α : Type} (f : α → α → Bool) (φ : α → α) (h : ∀ x, f x (φ x) = true) : ∀ l : List α, eqF f l (l.map φ) = true := fun l =>
  (eqF_iff f l (l.map φ)).2 ⟨by simp, fun i h1 h2 => by rw [List.getElem_map]; exact h _⟩
theorem Ins.same_pureT (x : Ins) : x.same x.pure = true := by
  unfold Ins.same Ev.same Ins.pure
  dsimp only
  rw [mI_mI, mI_mI, mS_mS, mS_mS, mS_mS]
  exact eq6_refl _ _ _ _ _ _
theorem Mth.same_pureT (m : Mth) : m.same m.pure = true := by
  simp [Mth.same, Mth.pure, eqF_mapT Ins.same Ins.pure Ins.same_pureT, eqF_refl fun x _ => Hnd.eq_refl x]
theorem Cls.same_pureT (c : Cls) : c.same c.pure = true := by
  simp [Cls.same, Cls.pure, eqF_refl (f := fun x y => x == y) fun (x : List UInt8) _ => beq_self_eq_true x, eqF_refl fun x _ => Fld.eq_refl x, eqF_mapT Mth.same Mth.pure Mth.same_pureT]
theorem Cls.bytes_of_same (c k : Cls) (h : c.same k = true) : c.bytes = k.bytes := by
  rw [← pure_bytes c, ← pure_bytes k, c.pure_of_same k h]

theorem xor_byte (p x : UInt8) : intBin .xor .u8 (p.toNat : Int) (x.toNat : Int) = some (byteV (p ^^^ x)) := by
  have e : ∀ q : UInt8, BitVec.ofInt 8 (q.toNat : Int) = q.toBitVec := fun q => by
    apply BitVec.eq_of_toNat_eq
    rw [BitVec.toNat_ofInt]
    have := q.toNat_lt
    show ((q.toNat : Int) % ((2 ^ 8 : Nat) : Int)).toNat = q.toNat
    omega
  show some (V.int .u8 (IntKind.u8.wrap ((BitVec.ofInt 8 (p.toNat : Int) ^^^ BitVec.ofInt 8 (x.toNat : Int)).toNat : Int))) = _
  rw [e, e]
  have h2 : (p.toBitVec ^^^ x.toBitVec).toNat = (p ^^^ x).toNat := rfl
  rw [h2]
  have := (p ^^^ x).toNat_lt
  have h3 : IntKind.u8.wrap (((p ^^^ x).toNat : Nat) : Int) = ((p ^^^ x).toNat : Int) := by
    rw [wrap_u8]; omega
  rw [h3]
  rfl
theorem xor_zero (p : UInt8) : p ^^^ 0 = p := by
  apply UInt8.toBitVec_inj.1
  simp
theorem xor_ne (p x : UInt8) (h : x ≠ 0) : p ^^^ x ≠ p := by
  intro h1
  apply h
  have h2 := congrArg (fun q => p ^^^ q) h1
  have h3 : p ^^^ (p ^^^ x) = x := by
    apply UInt8.toBitVec_inj.1
    simp [← BitVec.xor_assoc]
  have h4 : p ^^^ p = 0 := by
    apply UInt8.toBitVec_inj.1
    simp
  rw [h3, h4] at h2
  exact h2

theorem all_scalar (l : List UInt8) : ∀ v ∈ l.map byteV, scalar v = true := fun v hv => by
  obtain ⟨q, _, rfl⟩ := List.mem_map.1 hv
  rfl
theorem wrap_u8_id {n : Int} (h : 0 ≤ n) (h2 : n < 256) : IntKind.u8.wrap n = n := by
  rw [wrap_u8]; omega

set_option maxHeartbeats 16000000 in
theorem ev_lawTurned (c : Cls) (hc : c.Wf) (pl : Int) (x : UInt8) : ev tab prim 5 [c.v, .int .i64 pl, byteV x] [[], []] = some (.bool true, [[], []]) := by
  have h1 := ev_ClassSize c hc
  by_cases hb : 12000 < c.size
  · unfold Cls.v Cls.cells byteV at *
    rw [ev_fn' tab prim (f := 5) rfl _ _ rfl]
    simp [h1, hb, ev_awakeP]
  have hs := c.small (by omega)
  by_cases he : c.err = 0
  · have hbl := c.bytes_le (by omega) (c.ok_of he)
    have hp := bytesT_pos c
    have hr := round_in pl c.bytes.length (by omega)
    have hR := ev_RoundT pl c.bytes.length (by omega) (by omega)
    have hdc := decV_bytes c (by omega) he
    have e0 := ev_rEncode_ok c hc hs he
    unfold oB at e0
    generalize round pl c.bytes.length = z at *
    obtain ⟨k, rfl⟩ : ∃ k : Nat, z = k := ⟨z.toNat, by omega⟩
    have hk : k < c.bytes.length := by omega
    obtain ⟨b, hb1⟩ : ∃ b, b = c.bytes.set k (c.bytes[k] ^^^ x) := ⟨_, rfl⟩
    have hb2 : b.length = c.bytes.length := by rw [hb1, List.length_set]
    have hb3 : b.map byteV = (c.bytes.map byteV).take k ++ byteV (c.bytes[k] ^^^ x) :: (c.bytes.map byteV).drop (k + 1) := by
      rw [hb1, List.map_set, List.set_eq_take_append_cons_drop, if_pos (by simpa using hk)]
    have hb4 : (c.bytes.map byteV).drop k = byteV c.bytes[k] :: (c.bytes.map byteV).drop (k + 1) := by
      rw [List.drop_eq_getElem_cons (by simpa using hk)]
      simp
    have hx0 : x = 0 → b = c.bytes := fun h => by
      rw [hb1, h, xor_zero]
      exact List.set_getElem_self hk
    have hx1 : x ≠ 0 → b ≠ c.bytes := fun h h2 => by
      have h3 := congrArg (fun l => l[k]?) h2
      simp only [hb1, List.getElem?_set_self hk, List.getElem?_eq_getElem hk] at h3
      exact xor_ne _ x h (Option.some.inj h3)
    have hxor := xor_byte c.bytes[k] x
    have hsc := all_scalar c.bytes
    have hsb := all_scalar b
    have hub := unbyte_bytes b
    have hne : ¬ c.bytes.map byteV = [] := by
      intro h
      have := congrArg List.length h
      simp at this
      rw [this] at hp
      simp at hp
    obtain ⟨M', e1⟩ := ev_Dec b false (by omega)
    have hany := decV_any b (by omega)
    have hw : 0 ≤ (x.toNat : Int) := by omega
    have hlen : (c.bytes.map byteV).length = c.bytes.length := by simp
    have hkl : (k : Int) < ((c.bytes.map byteV).length : Int) := by omega
    have hbl2 : (b.map byteV).length = (c.bytes.map byteV).length := by simp [hb2]
    rw [← hlen] at hR
    rcases hany with ⟨y, q, x1, x2, x3, x4⟩ | ⟨e, at_, q, g1, g2, g3⟩
    · rw [q] at e1
      obtain ⟨M2, e2⟩ := ev_Encode_ok y x1 x2 x3
      rw [x4] at e2
      have s1 := ev_RefSame c y hc
      have s2 := ev_ClassSame c y hc [[], []]
      have hcs : ((x.toNat : Int) != 0) = !(c.same y) := by
        by_cases h : x = 0
        · have h2 := hx0 h
          rw [h2, hdc] at q
          have h3 : c.pure = y := congrArg Prod.fst q
          rw [← h3, c.same_pureT, h]
          rfl
        · have h2 : c.same y = false := by
            cases h3 : c.same y
            · rfl
            · exact absurd (x4.symm.trans (c.bytes_of_same y h3).symm) (hx1 h)
          rw [h2]
          have : x.toNat ≠ 0 := fun h3 => h (UInt8.toNat_inj.1 h3)
          simpa using this
      clear hdc hx0 hx1 hs hc x1 x2 x3 x4 q hr
      clear hb1 hp hbl hb2 he
      generalize c.bytes[k] = p at *
      generalize p ^^^ x = p' at *
      generalize c.same y = sm at *
      generalize hcs' : c.bytes.map byteV = cs at *
      generalize b.map byteV = bs at *
      unfold Cls.v Cls.cells byteV at *
      rw [ev_fn' tab prim (f := 5) rfl _ _ rfl]
      have sc0 : ∀ n, scalar (.int .i64 n) = true := fun _ => rfl
      dsimp only at e1
      have hbs := hb3.symm
      simp [h1, hb, e0, hne, -scalar, sc0]
      rw [if_pos hsc]
      have hkd : idxOk (k : Int) cs.length = true := by simp [idxOk]; omega
      have hk1 : k + 1 ≤ cs.length := by omega
      simp at hxor
      have hpt : ∀ v ∈ bs, pointsTo 2 20 v = false := by
        intro v hv
        have := hsb v hv
        cases v <;> first | rfl | (simp [scalar] at this)
      have hbl3 : cs.length = bs.length := hbl2.symm
      clear hb3
      simp [hR, hkd, hb4, hxor, hk1, hbs, -scalar]
      rw [if_pos ⟨hsb, fun x hx => by simpa [pointsTo] using hpt x hx⟩, if_pos hbl3]
      cases sm <;> simp only [Bool.not_true, Bool.not_false] at hcs <;> simp [e1, hub, e2, s1, s2, hcs, ev_awakeP]
    · rw [q] at e1
      have hxn : ((x.toNat : Int) != 0) = true := by
        by_cases h : x = 0
        · have h2 := hx0 h
          rw [h2, hdc] at q
          have h3 : (0 : Int) = e := congrArg (fun p => p.2.1) q
          omega
        · have : x.toNat ≠ 0 := fun h3 => h (UInt8.toNat_inj.1 h3)
          simpa using this
      clear hdc hx0 hx1 hs hc q hr
      clear hb1 hp hbl hb2 he
      generalize c.bytes[k] = p at *
      generalize p ^^^ x = p' at *
      generalize hcs' : c.bytes.map byteV = cs at *
      have g3' : (at_ : Int) ≤ ((b.map byteV).length : Int) := by simp; omega
      generalize b.map byteV = bs at *
      unfold zeroC Cls.v Cls.cells byteV at *
      rw [ev_fn' tab prim (f := 5) rfl _ _ rfl]
      have sc0 : ∀ n, scalar (.int .i64 n) = true := fun _ => rfl
      dsimp only at e1
      have hbs := hb3.symm
      simp [h1, hb, e0, hne, -scalar, sc0]
      rw [if_pos hsc]
      have hkd : idxOk (k : Int) cs.length = true := by simp [idxOk]; omega
      have hk1 : k + 1 ≤ cs.length := by omega
      simp at hxor
      have hpt : ∀ v ∈ bs, pointsTo 2 20 v = false := by
        intro v hv
        have := hsb v hv
        cases v <;> first | rfl | (simp [scalar] at this)
      have hbl3 : cs.length = bs.length := hbl2.symm
      have n1 : (e != 0) = true := by simp; omega
      clear hb3
      simp [hR, hkd, hb4, hxor, hk1, hbs, -scalar]
      rw [if_pos ⟨hsb, fun x hx => by simpa [pointsTo] using hpt x hx⟩, if_pos hbl3]
      simp at e1
      simp [e1, n1, hxn, g3', ev_awakeP]
  · have e3 := ev_rEncode_bad c hc hs he
    have he' : (c.err != 0) = true := by simpa using he
    generalize c.err = er at *
    unfold Cls.v Cls.cells byteV at *
    rw [ev_fn' tab prim (f := 5) rfl _ _ rfl]
    simp [h1, hb]
    simp [e3, he', ev_awakeP]

end Go.Proofs.YtgmlanhhjmhmmaaGreat.Ev
