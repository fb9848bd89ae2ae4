/- asm.ParseLine. -/
import Derived.Test.YtgmlanhhjmhmmaaDoorYf
namespace Go.Proofs.YtgmlanhhjmhmmaaDoor.Ev
open Go

def zI : Ins := ⟨0, 0, 0, [], [], []⟩
def parseR (s : List UInt8) : Ins × Rd :=
  let p0 := (Rd.mk (cutV s) false).word
  let o := opOfV p0.1
  let pa := p0.2.numIf (rowB o 1)
  let pb := pa.2.numIf (rowB o 2)
  let pc := pb.2.wordIf (rowB o 3)
  let pn := pc.2.wordIf (rowB o 4)
  let pd := pn.2.wordIf (rowB o 5)
  (⟨o, pa.1, pb.1, pc.1, pn.1, pd.1⟩, pd.2)
/-- A text as an instruction. -/
def asmP (s : List UInt8) : Ins × Int := bif (parseR s).2.ended && !s.isEmpty && ((parseR s).1.line == s) then ((parseR s).1, 0) else (zI, 7)

def Rd.Sh (r : Rd) : Prop := ∀ w ∈ r.ws, w.length ≤ 2000
theorem Rd.word_sh {r : Rd} (h : r.Sh) : r.word.2.Sh ∧ r.word.1.length ≤ 2000 := by
  obtain ⟨ws, bad⟩ := r
  cases ws with
  | nil => exact ⟨by intro w hw; simp [Rd.word] at hw, by simp [Rd.word]⟩
  | cons w q => exact ⟨fun x hx => h x (by simp [Rd.word] at hx; simp [hx]), h w (by simp)⟩
theorem Rd.num_sh {r : Rd} (h : r.Sh) : r.num.2.Sh := (Rd.word_sh h).1
theorem Rd.numIf_sh {r : Rd} (h : r.Sh) (b : Bool) : (r.numIf b).2.Sh := by
  cases b
  · exact h
  · exact Rd.num_sh h
theorem Rd.wordIf_sh {r : Rd} (h : r.Sh) (b : Bool) : (r.wordIf b).2.Sh ∧ (r.wordIf b).1.length ≤ 2000 := by
  cases b
  · exact ⟨h, by simp [Rd.wordIf]⟩
  · exact Rd.word_sh h

theorem atoiV_range (w : List UInt8) : -9223372036854775808 ≤ (atoiV w).1 ∧ (atoiV w).1 ≤ 9223372036854775807 := by
  unfold atoiV
  cases h : Lib.atoiAll w
  case range => simp only [Lib.atoiSat]; split <;> decide
  case ok v =>
    show -9223372036854775808 ≤ v ∧ v ≤ 9223372036854775807
    unfold Lib.atoiAll at h
    split at h
    · cases h
    · simp only at h
      split at h
      · cases h
      · cases h
      · rename_i u hu
        have := Lib.parseMag_lt hu
        split at h
        · cases h
        · split at h
          · cases h
          · injection h with h
            subst h
            split <;> omega
  show (-9223372036854775808 : Int) ≤ 0 ∧ (0 : Int) ≤ 9223372036854775807
  decide
theorem Rd.numIf_range (r : Rd) (b : Bool) : -9223372036854775808 ≤ (r.numIf b).1 ∧ (r.numIf b).1 ≤ 9223372036854775807 := by
  cases b
  · exact ⟨by show (-9223372036854775808 : Int) ≤ 0; decide, by show (0 : Int) ≤ 9223372036854775807; decide⟩
  · exact atoiV_range _

theorem parseR_short (s : List UInt8) (hs : s.length ≤ 2000) : (parseR s).1.Short := by
  have h0 : (Rd.mk (cutV s) false).Sh := fun w hw => Nat.le_trans (cutV_len s w hw) hs
  have h1 := (Rd.word_sh h0).1
  unfold parseR
  dsimp only
  generalize (Rd.mk (cutV s) false).word = p0 at *
  have ha := Rd.numIf_sh h1 (rowB (opOfV p0.1) 1)
  have ha2 := Rd.numIf_range p0.2 (rowB (opOfV p0.1) 1)
  generalize p0.2.numIf (rowB (opOfV p0.1) 1) = pa at *
  have hb := Rd.numIf_sh ha (rowB (opOfV p0.1) 2)
  have hb2 := Rd.numIf_range pa.2 (rowB (opOfV p0.1) 2)
  generalize pa.2.numIf (rowB (opOfV p0.1) 2) = pb at *
  have hc := Rd.wordIf_sh hb (rowB (opOfV p0.1) 3)
  generalize pb.2.wordIf (rowB (opOfV p0.1) 3) = pc at *
  have hn := Rd.wordIf_sh hc.1 (rowB (opOfV p0.1) 4)
  generalize pc.2.wordIf (rowB (opOfV p0.1) 4) = pn at *
  have hd := Rd.wordIf_sh hn.1 (rowB (opOfV p0.1) 5)
  exact ⟨ha2, hb2, hc.2, hn.2, hd.2⟩

theorem ev_Split (s : List UInt8) (hs : s.length ≤ 2000) (m : Mem) : ev tab prim 16 [.str s, .str [32]] m = some (.list 1 ((cutV s).map V.str) true, m) := by
  rw [ev_prim tab prim rfl]
  have h1 : s.length < 4294967281 := by omega
  simp [prim, h1, split_cutV]

/-! ### The code, part by part -/
def fstN : Nat → ACode → ACode
  | 0, .seq a _ => a
  | n + 1, .seq _ b => fstN n b
  | _, _ => .skip
def sndN : Nat → ACode → ACode
  | 0, c => c
  | n + 1, .seq _ b => sndN n b
  | _, _ => .skip

abbrev plB : ACode := A9.body
def plS (s : List UInt8) (fs : List Bool) (X : List V) (r : Rd) : St := { env := [(0, .str s), (2, .ptr 2 2 0), (4, .ptr 2 10 0), (5, .cptr (fs.map V.bool))], mem := rdM X r }

theorem pl4 (s : List UInt8) (f1 f2 f3 f4 f5 : Bool) (o : Int) (r : Rd) (hr : r.Sh) :
    cv tab prim (fstN 4 plB) (plS s [f1, f2, f3, f4, f5] [.int .i64 o, .int .i64 0, .int .i64 0, .str [], .str [], .str []] r) = some (.normal, plS s [f1, f2, f3, f4, f5] [.int .i64 o, .int .i64 (r.numIf f1).1, .int .i64 0, .str [], .str [], .str []] (r.numIf f1).2) := by
  have h := ev_num [.int .i64 o, .int .i64 0, .int .i64 0, .str [], .str [], .str []] r hr
  unfold plS
  cases f1 with
  | false => simp [fstN, plB, A9, Rd.numIf]
  | true =>
    simp only [Rd.numIf, cond_true]
    generalize r.num = q at *
    obtain ⟨a, q⟩ := q
    unfold rdM Rd.cells at *
    simp [fstN, plB, A9, h]

theorem pl5 (s : List UInt8) (f1 f2 f3 f4 f5 : Bool) (o a : Int) (r : Rd) (hr : r.Sh) :
    cv tab prim (fstN 5 plB) (plS s [f1, f2, f3, f4, f5] [.int .i64 o, .int .i64 a, .int .i64 0, .str [], .str [], .str []] r) = some (.normal, plS s [f1, f2, f3, f4, f5] [.int .i64 o, .int .i64 a, .int .i64 (r.numIf f2).1, .str [], .str [], .str []] (r.numIf f2).2) := by
  have h := ev_num [.int .i64 o, .int .i64 a, .int .i64 0, .str [], .str [], .str []] r hr
  unfold plS
  cases f2 with
  | false => simp [fstN, plB, A9, Rd.numIf]
  | true =>
    simp only [Rd.numIf, cond_true]
    generalize r.num = q at *
    obtain ⟨b, q⟩ := q
    unfold rdM Rd.cells at *
    simp [fstN, plB, A9, h]

theorem pl6 (s : List UInt8) (f1 f2 f3 f4 f5 : Bool) (o a b : Int) (r : Rd) :
    cv tab prim (fstN 6 plB) (plS s [f1, f2, f3, f4, f5] [.int .i64 o, .int .i64 a, .int .i64 b, .str [], .str [], .str []] r) = some (.normal, plS s [f1, f2, f3, f4, f5] [.int .i64 o, .int .i64 a, .int .i64 b, .str (r.wordIf f3).1, .str [], .str []] (r.wordIf f3).2) := by
  have h := ev_word [.int .i64 o, .int .i64 a, .int .i64 b, .str [], .str [], .str []] r
  unfold plS
  cases f3 with
  | false => simp [fstN, plB, A9, Rd.wordIf]
  | true =>
    simp only [Rd.wordIf, cond_true]
    generalize r.word = q at *
    obtain ⟨c, q⟩ := q
    unfold rdM Rd.cells at *
    simp [fstN, plB, A9, h]

theorem pl7 (s : List UInt8) (f1 f2 f3 f4 f5 : Bool) (o a b : Int) (c : List UInt8) (r : Rd) :
    cv tab prim (fstN 7 plB) (plS s [f1, f2, f3, f4, f5] [.int .i64 o, .int .i64 a, .int .i64 b, .str c, .str [], .str []] r) = some (.normal, plS s [f1, f2, f3, f4, f5] [.int .i64 o, .int .i64 a, .int .i64 b, .str c, .str (r.wordIf f4).1, .str []] (r.wordIf f4).2) := by
  have h := ev_word [.int .i64 o, .int .i64 a, .int .i64 b, .str c, .str [], .str []] r
  unfold plS
  cases f4 with
  | false => simp [fstN, plB, A9, Rd.wordIf]
  | true =>
    simp only [Rd.wordIf, cond_true]
    generalize r.word = q at *
    obtain ⟨n, q⟩ := q
    unfold rdM Rd.cells at *
    simp [fstN, plB, A9, h]

def plE (s : List UInt8) (X : List V) (r : Rd) : St := { env := [(0, .str s), (2, .ptr 2 2 0), (4, .ptr 2 10 0)], mem := rdM X r }
theorem pl8 (s : List UInt8) (f1 f2 f3 f4 f5 : Bool) (o a b : Int) (c n : List UInt8) (r : Rd) :
    cv tab prim (fstN 8 plB) (plS s [f1, f2, f3, f4, f5] [.int .i64 o, .int .i64 a, .int .i64 b, .str c, .str n, .str []] r) = some (.normal, plE s [.int .i64 o, .int .i64 a, .int .i64 b, .str c, .str n, .str (r.wordIf f5).1] (r.wordIf f5).2) := by
  have h := ev_word [.int .i64 o, .int .i64 a, .int .i64 b, .str c, .str n, .str []] r
  unfold plS plE
  cases f5 with
  | false => simp [fstN, plB, A9, Rd.wordIf]
  | true =>
    simp only [Rd.wordIf, cond_true]
    generalize r.word = q at *
    obtain ⟨d, q⟩ := q
    unfold rdM Rd.cells at *
    simp [fstN, plB, A9, h]

theorem plB_eq : plB = .seq (fstN 0 plB) (.seq (fstN 1 plB) (.seq (fstN 2 plB) (.seq (fstN 3 plB) (.seq (fstN 4 plB) (.seq (fstN 5 plB) (.seq (fstN 6 plB) (.seq (fstN 7 plB) (.seq (fstN 8 plB) (sndN 9 plB))))))))) := rfl

/-- The end: read whole, and the line of what was read. -/
theorem plT (s : List UInt8) (x : Ins) (hx : x.Short) (r : Rd) :
    cv tab prim (sndN 9 plB) (plE s [.int .i64 x.o, .int .i64 x.a, .int .i64 x.b, .str x.c, .str x.n, .str x.d] r) =
      bif r.ended && !s.isEmpty && (x.line == s) then some (.ret, { env := [(2, .ptr 2 2 0), (3, .int .i64 0)], mem := rdM [.int .i64 x.o, .int .i64 x.a, .int .i64 x.b, .str x.c, .str x.n, .str x.d] r })
      else some (.ret, { env := [(2, .ptr 2 2 0), (3, .int .i64 7)], mem := rdM [.int .i64 0, .int .i64 0, .int .i64 0, .str [], .str [], .str []] r }) := by
  have hE := ev_ended [.int .i64 x.o, .int .i64 x.a, .int .i64 x.b, .str x.c, .str x.n, .str x.d] r
  have hLn := ev_Line x hx
  unfold Ins.v at hLn
  unfold plE
  generalize x.line = ln at *
  generalize r.ended = en at *
  have hbne : ∀ a b : List UInt8, (a != b) = !(a == b) := fun _ _ => rfl
  unfold rdM Rd.cells at *
  cases en with
  | false => simp [sndN, plB, A9, hE]
  | true =>
    cases hz : s.isEmpty with
    | true =>
      have : s = [] := by simpa using hz
      subst this
      simp [sndN, plB, A9, hE]
    | false =>
      cases hl : (ln == s) with
      | false => simp [sndN, plB, A9, hE, hz, hLn, hbne, hl]
      | true => simp [sndN, plB, A9, hE, hz, hLn, hbne, hl]

theorem pl03 (s : List UInt8) (hs : s.length ≤ 2000) (rest : ACode) :
    cv tab prim (.seq (fstN 0 plB) (.seq (fstN 1 plB) (.seq (fstN 2 plB) (.seq (fstN 3 plB) rest)))) { env := [(0, .str s)], mem := [[], [], []] } =
      cv tab prim rest (plS s [rowB (opOfV (Rd.mk (cutV s) false).word.1) 1, rowB (opOfV (Rd.mk (cutV s) false).word.1) 2, rowB (opOfV (Rd.mk (cutV s) false).word.1) 3, rowB (opOfV (Rd.mk (cutV s) false).word.1) 4, rowB (opOfV (Rd.mk (cutV s) false).word.1) 5]
        [.int .i64 (opOfV (Rd.mk (cutV s) false).word.1), .int .i64 0, .int .i64 0, .str [], .str [], .str []] (Rd.mk (cutV s) false).word.2) := by
  have hSp := ev_Split s hs [[], []]
  have hW := ev_word [.int .i64 0, .int .i64 0, .int .i64 0, .str [], .str [], .str []] (Rd.mk (cutV s) false)
  generalize hp0 : (Rd.mk (cutV s) false).word = p0 at *
  obtain ⟨w0, r0⟩ := p0
  dsimp only at *
  have hOp := ev_opOf w0
  generalize opOfV w0 = o at *
  have hOf := ev19 o
  rw [shapeOf_eq] at hOf
  clear hp0
  unfold rdM Rd.cells at hW
  unfold plS rdM Rd.cells
  generalize (cutV s).map V.str = cs at *
  simp [fstN, plB, A9, hSp, hW, hOp, hOf]

theorem ev_ParseLine (s : List UInt8) (hs : s.length ≤ 2000) : ev tab prim 9 [.str s] [[], []] = some (.tup [(asmP s).1.v, .int .i64 (asmP s).2], [[], []]) := by
  have h0 : (Rd.mk (cutV s) false).Sh := fun w hw => Nat.le_trans (cutV_len s w hw) hs
  have h1 := (Rd.word_sh h0).1
  have hsh := parseR_short s hs
  have h03 := pl03 s hs (.seq (fstN 4 plB) (.seq (fstN 5 plB) (.seq (fstN 6 plB) (.seq (fstN 7 plB) (.seq (fstN 8 plB) (sndN 9 plB))))))
  have hT := plT s (parseR s).1 hsh (parseR s).2
  have hrun : cv tab prim plB { env := [(0, .str s)], mem := [[], [], []] } = cv tab prim (sndN 9 plB) (plE s [.int .i64 (parseR s).1.o, .int .i64 (parseR s).1.a, .int .i64 (parseR s).1.b, .str (parseR s).1.c, .str (parseR s).1.n, .str (parseR s).1.d] (parseR s).2) := by
    conv => lhs; rw [plB_eq, h03]
    clear h03 hT hsh
    unfold parseR
    dsimp only
    generalize (Rd.mk (cutV s) false).word = p0 at *
    obtain ⟨w0, r0⟩ := p0
    dsimp only at *
    generalize opOfV w0 = o at *
    have ha := Rd.numIf_sh h1 (rowB o 1)
    rw [cv_seq', pl4 _ _ _ _ _ _ _ _ h1, seqK_n, cv_seq', pl5 _ _ _ _ _ _ _ _ _ ha, seqK_n, cv_seq', pl6, seqK_n, cv_seq', pl7, seqK_n, cv_seq', pl8, seqK_n]
  rw [hT] at hrun
  rw [ev_fn' tab prim (f := 9) rfl _ _ rfl]
  unfold asmP
  generalize (parseR s).2 = r at *
  generalize (parseR s).1 = x at *
  generalize (r.ended && !s.isEmpty && (x.line == s)) = ok at *
  unfold Ins.v zI
  unfold rdM Rd.cells at hrun
  cases ok with
  | true =>
    simp only [cond_true] at hrun ⊢
    show finK [.b 2 (some 6), .a (.t 3)] (cv tab prim plB { env := [(0, .str s)], mem := [[], [], []] }) = _
    rw [hrun]
    simp
  | false =>
    simp only [cond_false] at hrun ⊢
    show finK [.b 2 (some 6), .a (.t 3)] (cv tab prim plB { env := [(0, .str s)], mem := [[], [], []] }) = _
    rw [hrun]
    simp

end Go.Proofs.YtgmlanhhjmhmmaaDoor.Ev
