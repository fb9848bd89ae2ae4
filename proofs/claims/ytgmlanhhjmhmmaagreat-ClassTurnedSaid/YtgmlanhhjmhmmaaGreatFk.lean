/- Types: front, and what is told by it. -/
import Derived.Test.YtgmlanhhjmhmmaaGreatFj
namespace Go.Proofs.YtgmlanhhjmhmmaaGreat.Ev
open Go

theorem u8ne {c : UInt8} {n : Nat} (hn : n < 256) (h : c ≠ n.toUInt8) : ((c.toNat : Int) == (n : Int)) = false := by
  rw [ieq]; simp only [decide_eq_false_iff_not]; intro hh; exact h ((u8 hn).1 hh)

set_option maxHeartbeats 8000000 in
theorem ev47 (s : List UInt8) (hs : s.length ≤ 100000) : ev tab prim 47 [.str s] [[], []] = some (.int .i64 (fr 0 s), [[], []]) := by
  rw [ev_fn' tab prim (f := 47) rfl _ _ rfl]
  have h := leadLoop s hs s.length 0 (by omega)
  have hle := lead_le s
  have hfr := fr_lead s 0
  rw [List.drop_zero, Nat.zero_add] at h
  rw [Nat.zero_add] at hfr
  generalize lead s = n at h hle hfr
  simp only [b0, Int.natCast_zero] at h
  by_cases h4 : 4 < n
  · rw [if_pos (.inl h4)] at hfr
    have h4' : (4 : Int) < (n : Int) := by omega
    simp [h, h4', hfr]
  · have h4' : ¬ (4 : Int) < (n : Int) := by omega
    by_cases hl : n = s.length
    · rw [if_pos (.inr (.inl hl))] at hfr
      have e : ((n : Int) == (s.length : Int)) = true := by rw [ieq]; simp; omega
      simp [h, h4', e, hfr]
    · have e : ((n : Int) == (s.length : Int)) = false := by rw [ieq]; simp; omega
      have hlt : n < s.length := by omega
      have h1 : (n : Int) < (s.length : Int) := by omega
      have hx : s[n]? = some s[n] := List.getElem?_eq_getElem hlt
      have hd : s.drop n = s[n] :: s.drop (n + 1) := List.drop_eq_getElem_cons hlt
      have hrl : (s.drop (n + 1)).length = s.length - (n + 1) := List.length_drop
      have hw : IntKind.i64.wrap ((n : Int) + 1) = (n : Int) + 1 := wrap_small (by omega) (by omega)
      have hq := semiLoop s n hs (s.length - (n + 1)) (n + 1) (by omega) (by omega)
      rw [hd] at hfr
      generalize s[n] = c at hx hfr
      by_cases hI : c = 73
      · subst hI
        have hb : body (73 :: s.drop (n + 1)) = 1 := by simp [body]
        rw [hb, if_neg (by omega)] at hfr
        simp [h, h4', e, hfr, idxOk, h1, hx, hw]
      · have eI : ((c.toNat : Int) == 73) = false := u8ne (n := 73) (by omega) hI
        by_cases hC : c = 67
        · subst hC
          have hb : body (67 :: s.drop (n + 1)) = 1 := by simp [body]
          rw [hb, if_neg (by omega)] at hfr
          simp [h, h4', e, hfr, idxOk, h1, hx, hw]
        · have eC : ((c.toNat : Int) == 67) = false := u8ne (n := 67) (by omega) hC
          by_cases hL : c = 76
          · subst hL
            generalize hr : s.drop (n + 1) = r at hfr hq hrl
            have hb : body (76 :: r) = if Lib.indexByte r 59 < 0 then 0 else if nameOk (r.take (Lib.indexByte r 59).toNat) = true then (Lib.indexByte r 59).toNat + 2 else 0 := by simp [body]
            have hi := idx_lt r 59
            by_cases hk : Lib.indexByte r 59 < 0
            · rw [if_pos hk] at hb
              rw [hb, if_pos (.inr (.inr rfl))] at hfr
              have hsemi : semi r = r.length := by unfold semi; rw [if_pos hk]
              have hp : n + 1 + semi r = s.length := by omega
              rw [hp] at hq
              simp only [b1, Int.natCast_add, Int.natCast_one] at hq
              simp [h, h4', e, hfr, idxOk, h1, hx, hw, hq]
            · rw [if_neg hk] at hb
              have hsemi : semi r = (Lib.indexByte r 59).toNat := by unfold semi; rw [if_neg hk]
              rw [← hsemi] at hb
              have hql : semi r < r.length := by omega
              generalize semi r = q at hb hql hq
              have hn := ev18 (r.take q) (by rw [List.length_take]; omega)
              have hsl : (s.take (n + 1 + q)).drop (n + 1) = r.take q := by rw [List.drop_take, hr]; congr 1; omega
              generalize hp : n + 1 + q = p at hq hsl
              have ep : ((p : Int) == (s.length : Int)) = false := by rw [ieq]; simp; omega
              have hwp : IntKind.i64.wrap ((p : Int) + 1) = (p : Int) + 1 := wrap_small (by omega) (by omega)
              have g1 : (p : Int) ≤ (s.length : Int) := by omega
              have g2 : (0 : Int) ≤ (n : Int) + 1 := by omega
              have g3 : (n : Int) + 1 ≤ (p : Int) := by omega
              have g4 : ((n : Int) + 1).toNat = n + 1 := by omega
              simp only [b1, Int.natCast_add, Int.natCast_one] at hq
              cases hnm : nameOk (r.take q) <;> rw [hnm] at hb hn
              · rw [if_neg (by simp)] at hb
                rw [hb, if_pos (.inr (.inr rfl))] at hfr
                simp [h, h4', e, hfr, idxOk, h1, hx, hw, hq, ep, g1, g2, g3, g4, hsl, hn]
              · rw [if_pos rfl] at hb
                rw [hb, if_neg (by omega)] at hfr
                have hfin : ((n + (q + 2) : Nat) : Int) = (p : Int) + 1 := by omega
                rw [hfr, hfin]
                simp [h, h4', e, idxOk, h1, hx, hw, hq, ep, g1, g2, g3, g4, hsl, hn, hwp]
          · have eL : ((c.toNat : Int) == 76) = false := u8ne (n := 76) (by omega) hL
            have hb : body (c :: s.drop (n + 1)) = 0 := by simp [body, hI, hC, hL]
            rw [hb, if_pos (.inr (.inr rfl))] at hfr
            simp [h, h4', e, hfr, idxOk, h1, hx, hw, eI, eC, eL, bne]

end Go.Proofs.YtgmlanhhjmhmmaaGreat.Ev
