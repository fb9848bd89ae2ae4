/- The law ScriptBack. -/
import Derived.Test.YtpmpofcokkgfdaaDoorUn
namespace Go.Proofs.YtpmpofcokkgfdaaDoor.Ev
open Go

theorem itoa_len21 (n : Int) (h : -9223372036854775808 ≤ n ∧ n ≤ 9223372036854775807) : (Lib.itoa n).length ≤ 21 := by
  unfold Lib.itoa
  split
  · rw [List.length_cons, Lib.decDigits_length]
    have := nd_le 19 n.natAbs (by omega)
    omega
  · rw [Lib.decDigits_length]
    have := nd_le 19 n.toNat (by omega)
    omega

theorem numsT_len22 (l : List Int) (h : ∀ n ∈ l, -9223372036854775808 ≤ n ∧ n ≤ 9223372036854775807) : (numsT l).length ≤ 1 + l.length * 22 := by
  cases l with
  | nil => simp [numsT]
  | cons m r =>
    rw [numsT_cons]
    have key : ∀ (q : List Int) (acc : List UInt8), (∀ n ∈ q, -9223372036854775808 ≤ n ∧ n ≤ 9223372036854775807) → (numsG acc q).length ≤ acc.length + q.length * 22 := by
      intro q
      induction q with
      | nil => intro acc _; simp [numsG]
      | cons n q ih =>
        intro acc hq
        have h1 := ih (acc ++ 44 :: Lib.itoa n) fun x hx => hq x (by simp [hx])
        have h2 := itoa_len21 n (hq n (by simp))
        unfold numsG
        simp at h1 ⊢
        omega
    have h1 := key r (Lib.itoa m) fun x hx => h x (by simp [hx])
    have h2 := itoa_len21 m (h m (by simp))
    simp
    omega
theorem sline_len {o : Sop} (ho : o.Sh) : o.line.length ≤ 100 + o.a.length + o.b.length + 22 * o.l.length + 22 * o.m.length := by
  cases hok : o.lineOk with
  | false => rw [Sop.line_bad hok]; simp
  | true =>
    have hk := Sop.kind hok
    obtain ⟨n, hn, h1, h2⟩ := kindR_nat hk
    have hT := of_map' tab_ascii h2
    rw [← hn] at hT
    simp only [Bool.and_eq_true, decide_eq_true_eq] at hT
    have hkl := hT.2
    have e1 := itoa_len21 o.n ho.n
    have e2 := numsT_len22 o.l ho.l
    have e3 := numsT_len22 o.m ho.m
    rw [Sop.line_ok hok]
    unfold Sop.words
    rw [join_tail, List.length_append]
    rcases kind_cases hk with ⟨_, hF⟩ | ⟨_, hF⟩ | ⟨_, hF⟩ | ⟨_, hF⟩ | ⟨_, hF⟩
    all_goals
      rw [hF]
      simp [tailW, Sop.word]
      omega
theorem strip_sh {o : Sop} (ho : o.Sh) : o.strip.Sh := by
  obtain ⟨a, b, n, l, m, ll, ml⟩ := ho
  have z : -9223372036854775808 ≤ (0 : Int) ∧ (0 : Int) ≤ 9223372036854775807 := by decide
  unfold Sop.strip
  split
  · exact zero_sh _
  split
  · exact ⟨a, b, z, by simp, by simp, by simp, by simp⟩
  split
  · exact ⟨a, by simp, n, l, m, ll, ml⟩
  · exact ⟨a, by simp, z, by simp, by simp, by simp, by simp⟩

theorem ev_lawBackS (o : Sop) (hn : -9223372036854775808 ≤ o.n ∧ o.n ≤ 9223372036854775807) (hl : ∀ n ∈ o.l, -9223372036854775808 ≤ n ∧ n ≤ 9223372036854775807) (hm : ∀ n ∈ o.m, -9223372036854775808 ≤ n ∧ n ≤ 9223372036854775807) :
    ev tab prim 3 [o.v] [[], []] = some (.bool true, [[], []]) := by
  have h1 := ev_smallS o
  have h2 := ev_made o
  have hw := ev_awakeS
  by_cases hz : o.size ≤ 1000
  · obtain ⟨ho, hsum⟩ := size_sh o hn hl hm hz
    obtain ⟨M1, h3⟩ := ev_sText o ho
    have h4 := ev_rTextOp o ho
    have hlen := sline_len ho
    cases hok : o.lineOk with
    | false =>
      have hb := Sop.line_bad hok
      rw [hb] at h3 h4
      unfold Sop.v Sop.cells at *
      rw [ev_fn' tab prim (f := 3) rfl _ _ rfl]
      simp [h1, h2, h3, h4, hw, hz]
    | true =>
      have h5 := ev_Parse o.line (by omega)
      have h6 := ev_Parse (o.line ++ [32, 120]) (by simp; omega)
      rw [parseP_line hok] at h5
      have hmore := parseP_more hok [120] (by decide)
      rw [show o.line ++ 32 :: [120] = o.line ++ [32, 120] from rfl] at hmore
      rw [hmore] at h6
      obtain ⟨M2, h7⟩ := ev_sText o.strip (strip_sh ho)
      rw [strip_line] at h7
      have hk := strip_k o
      have hne : (o.line == []) = false := by rw [beq_eq_false_iff_ne]; exact Sop.line_ne hok
      have hll : o.line.length + ([32, 120] : List UInt8).length ≤ 9223372036854775807 := by simp; omega
      clear hmore
      generalize o.strip = p at *
      generalize o.line = ln at *
      unfold Sop.v Sop.cells Sop.zero at *
      simp at hll h6
      dsimp only at h5
      rw [hk] at h5 h7
      rw [ev_fn' tab prim (f := 3) rfl _ _ rfl]
      simp [h1, h2, h3, h4, h5, h6, h7, hw, hz, hne, hll]
  · have hz' : decide (o.size ≤ 1000) = false := decide_eq_false hz
    unfold Sop.v Sop.cells at *
    rw [ev_fn' tab prim (f := 3) rfl _ _ rfl]
    simp [h1, hw, hz]

end Go.Proofs.YtpmpofcokkgfdaaDoor.Ev
