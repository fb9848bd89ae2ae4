/- script.Parse. -/
import Derived.Test.YtpmpofcokkgfdaaGreatDoorUk
namespace Go.Proofs.YtpmpofcokkgfdaaGreatDoor.Ev
open Go

/-! ### The kind of a word -/
theorem ev_parse1 (a b w : List UInt8) (r : List V) (M : Mem) : ev tab prim 18 [.agg [.str a, .str b], .cptr [.list 1 (.str w :: r) false]] M = some (.bool (a == w), M) := by
  rw [ev_fn' tab prim (f := 18) rfl _ _ rfl]
  have h1 : idxOk 0 (r.length + 1) = true := by simp [idxOk]
  have h2 : idxOk 0 2 = true := by decide
  simp [h1, h2]

def rowsV (kw : List (List UInt8 × List UInt8)) : List V := kw.map fun p => .agg [.str p.1, .str p.2]
def ixSt (kw : List (List UInt8 × List UInt8)) (w : List UInt8) (r : List V) (i : Nat) (M : Mem) : St := { env := [(0, .list 2 (rowsV kw) false), (1, .func (.func 18) [] [.cptr [.list 1 (.str w :: r) false]]), (7, .int .i64 kw.length), (8, .int .i64 i)], mem := [] :: M }
theorem idxF_ge (p : List UInt8 → Bool) : ∀ (l : List (List UInt8)) (i : Int), idxF p l i = -1 ∨ i ≤ idxF p l i
  | [], i => .inl rfl
  | w :: r, i => by
    unfold idxF
    split
    · exact .inr (Int.le_refl _)
    · rcases idxF_ge p r (i + 1) with h | h
      · exact .inl h
      · exact .inr (by omega)
theorem ix_loop (kw : List (List UInt8 × List UInt8)) (hk : kw.length ≤ 1000) (w : List UInt8) (r : List V) (M : Mem) : ∀ n i, kw.length - i = n → i ≤ kw.length →
    cv tab prim (.loop L17_0) (ixSt kw w r i M) =
      if idxF (fun x => x == w) ((kw.map (·.1)).drop i) i = -1 then some (.exit 0, { env := [], mem := [] :: M }) else some (.ret, { env := [(4, .int .i64 (idxF (fun x => x == w) ((kw.map (·.1)).drop i) i))], mem := [] :: M }) := by
  intro n
  induction n with
  | zero =>
    intro i hn hi
    obtain rfl : i = kw.length := by omega
    have e : (kw.map (·.1)).drop kw.length = [] := List.drop_of_length_le (by simp)
    have e2 : ∀ i : Int, idxF (fun x => x == w) [] i = -1 := fun _ => rfl
    rw [e, if_pos (e2 _), cv_loop']
    simp [ixSt, L17_0]
  | succ n ih =>
    intro i hn hi
    have hlt : i < kw.length := by omega
    have hd : (kw.map (·.1)).drop i = kw[i].1 :: (kw.map (·.1)).drop (i + 1) := by
      rw [List.drop_eq_getElem_cons (by simpa using hlt)]
      simp
    have h1 := ev_parse1 kw[i].1 kw[i].2 w r ([] :: M)
    have w1 : IntKind.i64.wrap ((i : Int) + 1) = ((i + 1 : Nat) : Int) := by rw [wrap_small] <;> omega
    have g1 : (i : Int) < (kw.length : Int) := by omega
    have hlen : (rowsV kw).length = kw.length := by simp [rowsV]
    have hget : (rowsV kw)[i]? = some (.agg [.str kw[i].1, .str kw[i].2]) := by simp [rowsV, hlt]
    have hix : idxOk (i : Int) (rowsV kw).length = true := by rw [hlen]; simp [idxOk, hlt]
    rw [hd]
    have hI : idxF (fun x => x == w) (kw[i].1 :: (kw.map (·.1)).drop (i + 1)) i = if (kw[i].1 == w) = true then (i : Int) else idxF (fun x => x == w) ((kw.map (·.1)).drop (i + 1)) ((i : Int) + 1) := rfl
    rw [hI]
    generalize hp : kw[i] = p at *
    obtain ⟨a, b⟩ := p
    dsimp only at *
    generalize hrv : rowsV kw = rv at *
    cases hq : (a == w) with
    | true =>
      rw [hq] at h1
      simp only [if_true]
      have hne : ¬ (i : Int) = -1 := by omega
      rw [if_neg hne]
      have hs : cv tab prim L17_0 (ixSt kw w r i M) = some (.ret, { env := [(4, .int .i64 i)], mem := [] :: M }) := by
        unfold ixSt
        rw [hrv]
        simp [L17_0, g1, hget, hix, h1]
      rw [cv_loop', hs, roundK_r]
    | false =>
      rw [hq] at h1
      have hf : (if (false : Bool) = true then (i : Int) else idxF (fun x => x == w) ((kw.map (·.1)).drop (i + 1)) ((i : Int) + 1)) = idxF (fun x => x == w) ((kw.map (·.1)).drop (i + 1)) ((i + 1 : Nat) : Int) := by rw [if_neg (by decide)]; rfl
      rw [hf]
      have hs : cv tab prim L17_0 (ixSt kw w r i M) = some (.normal, ixSt kw w r (i + 1) M) := by
        unfold ixSt
        rw [hrv]
        simp [L17_0, g1, hget, hix, h1, w1]
      rw [cv_loop', hs, roundK_n, ih (i + 1) (by omega) (by omega)]

theorem ev_kind (w : List UInt8) (r : List V) (M : Mem) : ev tab prim 17 [.list 2 (rowsV kwords) false, .func (.func 18) [] [.cptr [.list 1 (.str w :: r) false]]] M = some (.int .i64 (kindP w), M) := by
  have h := ix_loop kwords (by decide) w r M 16 0 rfl (by decide)
  rw [List.drop_zero] at h
  have e : idxF (fun x => x == w) (kwords.map (·.1)) ((0 : Nat) : Int) = kindP w := rfl
  rw [e] at h
  unfold ixSt at h
  have hl : (rowsV kwords).length = 16 := rfl
  have hl2 : kwords.length = 16 := rfl
  rw [hl2] at h
  generalize rowsV kwords = rv at *
  rw [ev_fn' tab prim (f := 17) rfl _ _ rfl]
  simp only [Int.cast_ofNat_Int] at h
  by_cases h0 : kindP w = -1
  · rw [if_pos h0] at h
    simp [hl, h, h0]
  · rw [if_neg h0] at h
    simp [hl, h]

/-! ### The fields -/
theorem iaddra_table : (List.range 16).map (fun n : Nat => rIaddra 16 2 [.cptr tableV, .int .i64 (n : Int)]) = (List.range 16).map fun n : Nat => some (V.cptr (.str (kword (n : Int)) :: .str (kfields (n : Int)) :: tableV.drop (n * 2 + 2))) := by kernel_rfl
theorem iaddra_1 (a b : V) (R : List V) : rIaddra 2 1 [.cptr (a :: b :: R), .int .i64 1] = some (.cptr (b :: R)) := rfl
theorem asl_table : rAsl 16 2 [.cptr tableV] = some (.list 2 (rowsV kwords) false) := by kernel_rfl

def pfSt (o : Sop) (s : List UInt8) (ws : List (List UInt8)) (i : Nat) : St := { env := [(0, .str s), (2, .ptr 2 2 0), (5, .cptr tableV), (31, .list 1 (ws.map V.str) false), (32, .int .i64 ws.length), (33, .int .i64 i)], mem := [[(2, o.own)], [], []] }
theorem readF_k (f : UInt8) (w : List UInt8) (o : Sop) : (readF f w o).k = o.k := by
  unfold readF; repeat' split <;> try rfl
theorem pf_loop (s : List UInt8) (k : Int) (hk : kindR k = true) (ws : List (List UInt8)) (hl : ws.length = (kfields k).length) (hw : ∀ w ∈ ws, w.length ≤ 50000) : ∀ n i (o : Sop), ws.length - i = n → i ≤ ws.length → o.k = k →
    cv tab prim (.loop L6_0) (pfSt o s ws i) = some (.exit 0, { env := [(0, .str s), (2, .ptr 2 2 0)], mem := [[(2, (readAll ((kfields k).drop i) (ws.drop i) o).own)], [], []] }) := by
  obtain ⟨q, hq, _, hq2⟩ := kindR_nat hk
  have hT := of_map' tab_ascii hq2
  rw [← hq] at hT
  simp only [Bool.and_eq_true, decide_eq_true_eq] at hT
  have hI := of_map' iaddra_table hq2
  rw [← hq] at hI
  have hfl := hT.1.2
  intro n
  induction n with
  | zero =>
    intro i o hn hi ho
    obtain rfl : i = ws.length := by omega
    have e : ws.drop ws.length = [] := List.drop_of_length_le (Nat.le_refl _)
    have e2 : (kfields k).drop ws.length = [] := List.drop_of_length_le (by omega)
    rw [e, e2, cv_loop']
    have e3 : readAll [] [] o = o := rfl
    rw [e3]
    unfold pfSt Sop.own
    simp [L6_0]
  | succ n ih =>
    intro i o hn hi ho
    have hlt : i < ws.length := by omega
    have hlt2 : i < (kfields k).length := by omega
    have e1 : ws.drop i = ws[i] :: ws.drop (i + 1) := List.drop_eq_getElem_cons hlt
    have e2 : (kfields k).drop i = (kfields k)[i] :: (kfields k).drop (i + 1) := List.drop_eq_getElem_cons hlt2
    have hR := ev_reads o (kfields k)[i] ws[i] (hw _ (List.getElem_mem hlt))
    have w1 : IntKind.i64.wrap ((i : Int) + 1) = ((i + 1 : Nat) : Int) := by rw [wrap_small] <;> omega
    have g1 : (i : Int) < (ws.length : Int) := by omega
    rw [e1, e2]
    have e3 : readAll ((kfields k)[i] :: (kfields k).drop (i + 1)) (ws[i] :: ws.drop (i + 1)) o = readAll ((kfields k).drop (i + 1)) (ws.drop (i + 1)) (readF (kfields k)[i] ws[i] o) := rfl
    rw [e3, ← ih (i + 1) (readF (kfields k)[i] ws[i] o) (by omega) (by omega) (by rw [readF_k]; exact ho)]
    have hs : cv tab prim L6_0 (pfSt o s ws i) = some (.normal, pfSt (readF (kfields k)[i] ws[i] o) s ws (i + 1)) := by
      unfold pfSt
      have hidx : idxOk (i : Int) (kfields k).length = true := by simp [idxOk, hlt2]
      have hfi : (kfields k)[i]? = some (kfields k)[i] := by simp [hlt2]
      have hwi : idxOk (i : Int) ws.length = true := by simp [idxOk, hlt]
      generalize hro : (readF (kfields k)[i] ws[i] o).own = ro at *
      obtain ⟨ok, oa, ob, on, ol, om⟩ := o
      obtain rfl : ok = k := ho
      generalize kfields ok = fs at *
      generalize kword ok = kw at *
      generalize tableV.drop (q * 2 + 2) = tr at *
      generalize tableV = tv at *
      unfold Sop.own at *
      dsimp only at hR
      simp [-rIaddra, L6_0, g1, hlt, hlt2, idxOk, hI, iaddra_1, hR, w1]
    rw [cv_loop', hs, roundK_n]

end Go.Proofs.YtpmpofcokkgfdaaGreatDoor.Ev
