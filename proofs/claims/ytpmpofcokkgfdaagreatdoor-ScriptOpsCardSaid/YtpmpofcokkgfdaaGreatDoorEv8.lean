/- Each operation of the model does what the evaluator's says: the plain ones; then those that make or write memory, or call. -/
import Derived.Test.YtpmpofcokkgfdaaGreatDoorEv7
import Derived.Laws.BytesString
namespace Go.Proofs.YtpmpofcokkgfdaaGreatDoor.Ev
open Go

section ops
variable {P : Program} {G : Gh} {w : World} {M : Mem}

theorem vrun {s : Sem Value} {cv : Value} {w' : World} (h : s.run P w = .ok cv w') : (do pure (Next.value (← s)) : Sem Next).run P w = .ok (.value cv) w' := by
  simp [h]

theorem toList_one {α : Type} {a : Array α} {x : α} (h : a.toList = [x]) : a = #[x] := by cases a; simp at h; subst h; rfl
theorem toList_two {α : Type} {a : Array α} {x y : α} (h : a.toList = [x, y]) : a = #[x, y] := by cases a; simp at h; subst h; rfl

theorem and_l {a b : Bool} (h : (a && b) = true) : a = true := by cases a <;> simp_all
theorem and_r {a b : Bool} (h : (a && b) = true) : b = true := by cases a <;> simp_all

theorem isByteT_und {P : Program} {e : TypeId} (h : isByteT P e = true) : P.underlying e = some (.int .u8) := by
  simp only [isByteT, Bool.and_eq_true] at h
  exact intD h.1

theorem unbyte_rep {K : Know} : ∀ {xs : List V} {vs : List Value} {s : List UInt8}, RepL K vs (flat xs) → unbyte xs = some s → ∃ ns : List Int, vs = ns.map (Value.int .u8) ∧ s = ns.map (fun n => n.toNat.toUInt8) ∧ xs.length = ns.length
  | [], vs, s, h, hs => by
    simp only [unbyte, Option.some.injEq] at hs
    subst hs
    cases h
    exact ⟨[], rfl, rfl, rfl⟩
  | x :: xs, vs, s, h, hs => by
    unfold unbyte at hs
    split at hs
    · rename_i heq; cases heq
    · rename_i n r heq
      cases heq
      obtain ⟨s', h1, rfl⟩ := Option.map_eq_some_iff.1 hs
      simp only [flat, V.cells, List.singleton_append] at h
      cases h with | cons h1' h2 =>
      obtain ⟨ns, rfl, rfl, e⟩ := unbyte_rep h2 h1
      cases h1'
      exact ⟨n :: ns, rfl, rfl, by simp [e]⟩
    · cases hs

theorem foldl_push : ∀ (ns : List Int) (a : ByteArray), ns.foldl (fun r n => r.push (UInt8.ofNat n.toNat)) a = a ++ ⟨(ns.map (fun n => n.toNat.toUInt8)).toArray⟩
  | [], a => by
    apply ByteArray.ext
    simp
  | n :: ns, a => by
    rw [List.foldl_cons, foldl_push ns]
    apply ByteArray.ext
    apply Array.ext'
    simp [ByteArray.push]

theorem s_b2s {s d e : TypeId} {a : Value} {xs : List V} {r : V} (hI : Inv G w M) (hs' : P.underlying s = some (.slice e)) (he : P.underlying e = some (.int .u8)) (hd : P.underlying d = some .string) (hs : SRepL G [a] xs) (h : rB2s xs = some r) :
    ∃ cv, (convert s d a).run P w = .ok cv w ∧ SRep G cv r := by
  unfold rB2s at h
  split at h
  · rename_i ys own
    cases hs with | cons ha hs =>
    obtain ⟨bs, h1, h2⟩ := Option.map_eq_some_iff.1 h
    subst h2
    rcases ha.list_inv with ⟨rfl, base, cap, rfl, _⟩ | ⟨b', off, cap, vs, rfl, hc, hl, hok, hK, hr⟩
    · simp only [unbyte, Option.some.injEq] at h1
      subst h1
      refine ⟨.string ⟨(#[] : Array UInt8)⟩, ?_, .data (by simpa using Rep.str [])⟩
      rw [run_convert_bytes_string w s d e base 0 cap hs' he hd]
      cases base with
      | none => rfl
      | some ad =>
        rw [run_bytesToString w ad 0 cap [] (by simp [loadCells, loadCellsFrom])]
        rfl
    · obtain ⟨ns, rfl, rfl, hn⟩ := unbyte_rep hr h1
      refine ⟨_, ?_, .data (.str _)⟩
      rw [run_convert_bytes_string w s d e _ _ _ hs' he hd]
      have hload := run_loadCells (P := P) (w := w) (b := b') (o := off) (ns.map (Value.int .u8)) 0 #[] (fun i u hu => by
        have := hI.kh _ _ _ (hK i u hu)
        simpa using this)
      rw [List.length_map] at hload
      rw [run_bytesToString w _ _ _ ns (by rw [hn]; simpa [loadCells] using hload), foldl_push]
      congr 2
      all_goals first | rfl | (apply ByteArray.ext; simp)
  · cases h

def ReadsAs (G : Gh) (ρ : Operand → Value) (e : Env) : Prop := ∀ {xs : List Operand} {as : List AArg}, okArgs xs as = true → SRepL G (xs.map ρ) (as.map (readArg e))

theorem plain_sound {ρ : Operand → Value} {o : Oper} {args : List AArg} {pr : Prim} {e : Env} {r : V} (hI : Inv G w M) (hρ : ReadsAs G ρ e) (hpl : pr.plain = true) (hk : okPrim P o.op args pr = true)
    (hr : runP pr (args.map (readArg e)) = some r) : ∃ cv, (execOp ρ o).run P w = .ok (.value cv) w ∧ SRep G cv r ∧ noClaim r := by
  have fin : ∀ {s : Sem Value} (he : execOp ρ o = (do pure (Next.value (← s)) : Sem Next)) (_ : ∃ cv, s.run P w = .ok cv w ∧ SRep G cv r) (_ : noClaim r), ∃ cv, (execOp ρ o).run P w = .ok (.value cv) w ∧ SRep G cv r ∧ noClaim r := by
    intro s he ⟨cv, h1, h2⟩ h3
    exact ⟨cv, by rw [he]; exact vrun h1, h2, h3⟩
  cases pr with
  | pick =>
    simp only [okPrim] at hk
    split at hk
    · rename_i c a b hop
      obtain ⟨cv, h1, h2⟩ := s_pick (P := P) (w := w) (hρ hk) hr
      refine ⟨cv, ?_, h2, ?_⟩
      · unfold execOp; rw [hop]; exact h1
      · simp only [runP] at hr
        unfold rPick at hr
        split at hr
        · rename_i t a b _
          injection hr with hr; subst hr
          cases t <;> exact noClaim_strip _
        · cases hr
    · cases hk
  | bin bo =>
    simp only [okPrim] at hk
    split at hk
    · rename_i bo' t x y t' hop
      simp only [Bool.and_eq_true, decide_eq_true_eq] at hk
      obtain ⟨rfl, hk⟩ := hk
      refine fin (s := do eqGuard bo t x y (ρ x) (ρ y); binOp bo t (ρ x) (ρ y)) (by unfold execOp; rw [hop]) (s_bin (hρ hk) hr) ?_
      simp only [runP] at hr
      unfold rBin at hr
      split at hr
      · split at hr
        · unfold intBin at hr
          split at hr <;> first | (injection hr with hr; subst hr; exact noc_sound rfl) | (split at hr <;> first | (injection hr with hr; subst hr; exact noc_sound rfl) | cases hr) | cases hr
        · cases hr
      · unfold strBin at hr
        split at hr <;> first | (injection hr with hr; subst hr; exact noc_sound rfl) | (split at hr <;> first | (injection hr with hr; subst hr; exact noc_sound rfl) | cases hr) | cases hr
      · cases hr
    · cases hk
  | un u =>
    cases u with
    | not =>
      simp only [okPrim] at hk
      split at hk
      · rename_i t x hop
        refine fin (s := Op.unary .not (ρ x)) (by unfold execOp; rw [hop]) (s_not (hρ hk) hr) ?_
        simp only [runP] at hr
        unfold rNot at hr
        split at hr
        · injection hr with hr; subst hr; exact noc_sound rfl
        · cases hr
      · cases hk
    | neg =>
      simp only [okPrim] at hk
      split at hk
      · rename_i t x hop
        refine fin (s := Op.unary .neg (ρ x)) (by unfold execOp; rw [hop]) (s_neg (hρ hk) hr) ?_
        simp only [runP] at hr
        unfold rNeg at hr
        split at hr
        · injection hr with hr; subst hr; exact noc_sound rfl
        · cases hr
      · cases hk
    | _ => simp [okPrim] at hk
  | beq neg =>
    simp only [okPrim] at hk
    split at hk
    · rename_i bo t x y t' hop
      simp only [Bool.and_eq_true, decide_eq_true_eq] at hk
      obtain ⟨⟨rfl, hu⟩, hk⟩ := hk
      refine fin (s := do eqGuard (if neg then .neq else .eql) t x y (ρ x) (ρ y); binOp (if neg then .neq else .eql) t (ρ x) (ρ y)) (by unfold execOp; rw [hop]) (s_beq (boolD hu) (hρ hk) hr) ?_
      simp only [runP] at hr
      unfold rBeq at hr
      split at hr
      · injection hr with hr; subst hr; exact noc_sound rfl
      · cases hr
    · cases hk
  | seq ks neg =>
    simp only [okPrim] at hk
    split at hk
    · rename_i bo t x y t' hop
      simp only [Bool.and_eq_true, decide_eq_true_eq, Bool.not_eq_true'] at hk
      obtain ⟨⟨⟨⟨rfl, h1⟩, h2⟩, hk⟩, h3⟩ := hk
      split at h3
      · rename_i fs hfs
        refine fin (s := do eqGuard (if neg then .neq else .eql) t x y (ρ x) (ρ y); binOp (if neg then .neq else .eql) t (ρ x) (ρ y)) (by unfold execOp; rw [hop]) (s_seq h1 h2 hfs h3 (hρ hk) hr) ?_
        simp only [runP] at hr
        unfold rSeq at hr
        split at hr
        · obtain ⟨e', _, hr⟩ := Option.map_eq_some_iff.1 hr
          subst hr; exact noc_sound rfl
        · cases hr
      · cases h3
    · cases hk
  | isnil neg =>
    simp only [okPrim] at hk
    split at hk
    · rename_i bo t x t' hop
      simp only [Bool.and_eq_true, decide_eq_true_eq] at hk
      obtain ⟨⟨rfl, hu⟩, hk⟩ := hk
      obtain ⟨e', hu⟩ := ptrD hu
      by_cases hc : ρ (.const (.pointer none)) = .pointer none
      · refine fin (s := do eqGuard (if neg then .neq else .eql) t x (.const (.pointer none)) (ρ x) (ρ (.const (.pointer none))); binOp (if neg then .neq else .eql) t (ρ x) (ρ (.const (.pointer none)))) (by unfold execOp; rw [hop]) (by rw [hc]; exact s_isnil hu (hρ hk) hr) ?_
        simp only [runP] at hr
        unfold rIsnil at hr
        split at hr <;> first | (injection hr with hr; subst hr; exact noc_sound rfl) | cases hr
      · have := hρ (xs := [.const (.pointer none)]) (as := [.c .nilp]) rfl
        obtain ⟨x', hx', _, hh, hs⟩ := SRepL.one' this
        simp only [List.map_cons, List.map_nil, List.cons.injEq, and_true] at hx' hh
        subst hh
        rw [← hx'] at hc
        exact absurd hs.nilp_inv hc
    · cases hk
  | isnils neg =>
    simp only [okPrim] at hk
    split at hk
    · rename_i bo t x t' hop
      simp only [Bool.and_eq_true, decide_eq_true_eq] at hk
      obtain ⟨⟨rfl, hu⟩, hk⟩ := hk
      obtain ⟨e', hu⟩ := slD' hu
      have hc : ρ (.const (.slice none 0 0)) = .slice none 0 0 := by
        have := hρ (xs := [.const (.slice none 0 0)]) (as := [.c (.nils 0)]) rfl
        obtain ⟨x', hx', _, hh, hs⟩ := SRepL.one' this
        simp only [List.map_cons, List.map_nil, List.cons.injEq, and_true] at hx' hh
        subst hh
        rw [← hx']
        cases hs with | data r => cases r; rfl
      refine fin (s := do eqGuard (if neg then .neq else .eql) t x (.const (.slice none 0 0)) (ρ x) (ρ (.const (.slice none 0 0))); binOp (if neg then .neq else .eql) t (ρ x) (ρ (.const (.slice none 0 0)))) (by unfold execOp; rw [hop]) (by rw [hc]; exact s_isnils hu (hρ hk) hr) ?_
      simp only [runP] at hr
      unfold rIsnils at hr
      split at hr <;> first | (injection hr with hr; subst hr; exact noc_sound rfl) | cases hr
    · cases hk
  | isifc neg =>
    simp only [okPrim] at hk
    split at hk
    · rename_i bo t x t' hop
      simp only [Bool.and_eq_true, decide_eq_true_eq] at hk
      obtain ⟨⟨rfl, hu⟩, hk⟩ := hk
      obtain ⟨e', hu⟩ := ifD hu
      have hc : ρ (.const .nilIface) = .nilIface := by
        have := hρ (xs := [.const .nilIface]) (as := [.c (.ifc true)]) rfl
        obtain ⟨x', hx', _, hh, hs⟩ := SRepL.one' this
        simp only [List.map_cons, List.map_nil, List.cons.injEq, and_true] at hx' hh
        subst hh
        rw [← hx']
        cases hs with | data r => cases r; rfl
      refine fin (s := do eqGuard (if neg then .neq else .eql) t x (.const .nilIface) (ρ x) (ρ (.const .nilIface)); binOp (if neg then .neq else .eql) t (ρ x) (ρ (.const .nilIface))) (by unfold execOp; rw [hop]) (by rw [hc]; exact s_isifc hu (hρ hk) hr) ?_
      simp only [runP] at hr
      unfold rIsifc at hr
      split at hr <;> first | (injection hr with hr; subst hr; exact noc_sound rfl) | cases hr
    · cases hk
  | sidx =>
    simp only [okPrim] at hk
    split at hk
    · rename_i t x i hop
      simp only [Bool.and_eq_true] at hk
      refine fin (s := Instr.index t (ρ x) (ρ i)) (by unfold execOp; rw [hop]) (s_sidx (strD hk.1) (hρ hk.2) hr) ?_
      simp only [runP] at hr
      unfold rSidx at hr
      split at hr
      · split at hr
        · obtain ⟨e', _, hr⟩ := Option.map_eq_some_iff.1 hr
          subst hr; exact noc_sound rfl
        · cases hr
      · cases hr
    · cases hk
  | aidx n sz ag =>
    simp only [okPrim] at hk
    split at hk
    · rename_i t x i hop
      simp only [Bool.and_eq_true] at hk
      obtain ⟨hk, h1⟩ := hk
      split at h1
      · rename_i n' e' hu
        simp only [Bool.and_eq_true, beq_iff_eq] at h1
        obtain ⟨rfl, h1⟩ := h1
        split at h1
        · rename_i j d hj hd
          simp only [Bool.and_eq_true, beq_iff_eq, Bool.or_eq_true] at h1
          obtain ⟨⟨h2, h3⟩, h4⟩ := h1
          refine fin (s := Instr.index t (ρ x) (ρ i)) (by unfold execOp; rw [hop]) (s_aidx hu hj h2 hd h3 (fun h => by rw [h] at h4; simpa using h4) (hρ hk) hr) ?_
          simp only [runP] at hr
          unfold rAidx at hr
          split at hr
          · split at hr
            · split at hr
              · injection hr with hr; subst hr; exact noc_sound rfl
              · obtain ⟨e', _, hr⟩ := Option.map_eq_some_iff.1 hr
                subst hr; exact noClaim_strip _
            · cases hr
          · cases hr
        · cases h1
      · cases h1
    · cases hk
  | shf bo =>
    simp only [okPrim] at hk
    split at hk
    · rename_i bo' t x y t' hop
      simp only [Bool.and_eq_true, decide_eq_true_eq] at hk
      obtain ⟨rfl, hk⟩ := hk
      refine fin (s := do eqGuard bo t x y (ρ x) (ρ y); binOp bo t (ρ x) (ρ y)) (by unfold execOp; rw [hop]) (s_shf (hρ hk) hr) ?_
      simp only [runP] at hr
      unfold rShf at hr
      split at hr
      · split at hr
        · cases hr
        · split at hr <;> first | (injection hr with hr; subst hr; exact noc_sound rfl) | cases hr
      · cases hr
    · cases hk
  | iaddr sz =>
    simp only [okPrim] at hk
    split at hk
    · rename_i t x i hop
      simp only [Bool.and_eq_true] at hk
      obtain ⟨e', j, h1, h2, h3⟩ := slD hk.1
      refine fin (s := Instr.indexAt t (ρ x) (ρ i)) (by unfold execOp; rw [hop]) (s_iaddr h1 h2 h3 (hρ hk.2) hr) ?_
      simp only [runP] at hr
      unfold rIaddr at hr
      split at hr
      · split at hr
        · obtain ⟨e', _, hr⟩ := Option.map_eq_some_iff.1 hr
          subst hr; exact noc_sound rfl
        · cases hr
      · split at hr
        · injection hr with hr; subst hr; exact noc_sound rfl
        · cases hr
      · cases hr
    · cases hk
  | iaddra n sz =>
    simp only [okPrim] at hk
    split at hk
    · rename_i t x i hop
      simp only [Bool.and_eq_true] at hk
      obtain ⟨hk1, hk2⟩ := hk
      split at hk2
      · rename_i n' e h1
        simp only [Bool.and_eq_true, beq_iff_eq] at hk2
        obtain ⟨rfl, hk2⟩ := hk2
        split at hk2
        · rename_i j h2
          refine fin (s := Instr.indexAt t (ρ x) (ρ i)) (by unfold execOp; rw [hop]) (s_iaddra h1 h2 (by simpa using hk2) (hρ hk1) hr) ?_
          simp only [runP] at hr
          unfold rIaddra at hr
          split at hr
          · split at hr
            · injection hr with hr; subst hr; exact noc_sound rfl
            · cases hr
          · split at hr
            · injection hr with hr; subst hr; exact noc_sound rfl
            · cases hr
          · cases hr
        · cases hk2
      · cases hk2
    · cases hk
  | asl n sz =>
    simp only [okPrim] at hk
    split at hk
    · rename_i t x hop
      simp only [Bool.and_eq_true] at hk
      obtain ⟨hk1, hk2⟩ := hk
      split at hk2
      · rename_i n' e h1
        simp only [Bool.and_eq_true, beq_iff_eq] at hk2
        obtain ⟨rfl, hk2⟩ := hk2
        split at hk2
        · rename_i j h2
          refine fin (s := Instr.sliceAt t (ρ x) none none none) (by unfold execOp; rw [hop]; rfl) (s_asl h1 h2 (by simpa using hk2) (hρ hk1) hr) ?_
          simp only [runP] at hr
          unfold rAsl at hr
          split at hr
          · split at hr
            · injection hr with hr; subst hr; exact noc_sound rfl
            · cases hr
          · cases hr
        · cases hk2
      · cases hk2
    · cases hk
  | faddr off =>
    simp only [okPrim] at hk
    split at hk
    · rename_i t x fi hop
      simp only [Bool.and_eq_true] at hk
      obtain ⟨fs, f, h1, h2, h3, h4⟩ := fldD hk.1
      unfold sizeNe0 at h4
      split at h4
      · rename_i j hj
        refine fin (s := Instr.fieldAt t (ρ x) fi) (by unfold execOp; rw [hop]) (s_faddr h1 h2 h3 hj (by simpa using h4) (hρ hk.2) hr) ?_
        simp only [runP] at hr
        unfold rFaddr at hr
        split at hr <;> first | (injection hr with hr; subst hr; exact noc_sound rfl) | cases hr
      · cases h4
    · cases hk
  | load n =>
    simp only [okPrim] at hk
    split at hk
    · rename_i t x hop
      simp only [Bool.and_eq_true] at hk
      obtain ⟨j, d, h1, h2, h3⟩ := varD hk.1
      refine fin (s := Instr.loadAt t (ρ x)) (by unfold execOp; rw [hop]) (s_load hI h1 h2 h3 (hρ hk.2) hr) ?_
      simp only [runP] at hr
      unfold rLoad at hr
      split at hr
      · exact loadV_noClaim hr
      · cases hr
    · cases hk
  | loadc n =>
    simp only [okPrim] at hk
    split at hk
    · rename_i t x hop
      simp only [Bool.and_eq_true] at hk
      obtain ⟨j, d, h1, h2, h3⟩ := varD hk.1
      refine fin (s := Instr.loadAt t (ρ x)) (by unfold execOp; rw [hop]) (s_load hI h1 h2 h3 (hρ hk.2) hr) ?_
      simp only [runP] at hr
      unfold rLoad at hr
      split at hr
      · exact loadV_noClaim hr
      · cases hr
    · cases hk
  | ssl lo hi =>
    simp only [okPrim] at hk
    split at hk
    · rename_i t x l h hop
      simp only [Bool.and_eq_true, beq_iff_eq] at hk
      obtain ⟨⟨⟨h1, h2⟩, h3⟩, hk⟩ := hk
      have ha := hρ hk
      refine fin (s := Instr.sliceAt t (ρ x) (l.map ρ) (h.map ρ) none) (by unfold execOp; rw [hop]; rfl) (s_ssl (strD h3) (by simpa using h1) (by simpa using h2) (by cases l <;> cases h <;> simpa using ha) hr) ?_
      simp only [runP] at hr
      unfold rSsl at hr
      split at hr
      · obtain ⟨e', _, hr⟩ := Option.map_eq_some_iff.1 hr
        subst hr; exact noc_sound rfl
      · cases hr
    · cases hk
  | lsl sz lo hi mx =>
    cases mx with
    | true => simp [Prim.plain] at hpl
    | false =>
    replace hr : rLsl sz lo hi false (args.map (readArg e)) = some r := hr
    simp only [okPrim] at hk
    split at hk
    · rename_i t x l h hop
      simp only [Bool.and_eq_true, beq_iff_eq] at hk
      obtain ⟨⟨⟨h1, h2⟩, h3⟩, hk⟩ := hk
      have ha := hρ hk
      obtain ⟨e', j, h4, h5, h6⟩ := slD h3
      refine fin (s := Instr.sliceAt t (ρ x) (l.map ρ) (h.map ρ) none) (by unfold execOp; rw [hop]; rfl) (s_lsl h4 h5 h6 (by simpa using h1) (by simpa using h2) (by cases l <;> cases h <;> simpa using ha) hr) ?_
      unfold rLsl at hr
      split at hr
      · split at hr
        · obtain ⟨e', _, hr⟩ := Option.map_eq_some_iff.1 hr
          subst hr; exact noc_sound rfl
        · cases hr
      · split at hr
        · obtain ⟨e', _, hr⟩ := Option.map_eq_some_iff.1 hr
          subst hr; exact noc_sound rfl
        · cases hr
      · cases hr
    · cases hk
  | slen =>
    simp only [okPrim] at hk
    split at hk
    · rename_i c hop
      split at hk
      · rename_i x t h1 h2 h3
        simp only [Bool.and_eq_true] at hk
        refine fin (s := Builtin.len_ #[t] o.type #[ρ x]) ?_ (s_slen (strD hk.1) (hρ hk.2) hr) ?_
        · unfold execOp; rw [hop]
          simp [resolve, h1, toList_one h2, toList_one h3, invoke, builtin]
        · simp only [runP] at hr
          unfold rSlen at hr
          split at hr <;> first | (injection hr with hr; subst hr; exact noc_sound rfl) | cases hr
      · cases hk
    · cases hk
  | llen =>
    simp only [okPrim] at hk
    split at hk
    · rename_i c hop
      split at hk
      · rename_i x t h1 h2 h3
        simp only [Bool.and_eq_true] at hk
        obtain ⟨e', hu⟩ := slD' hk.1
        refine fin (s := Builtin.len_ #[t] o.type #[ρ x]) ?_ (s_llen hu (hρ hk.2) hr) ?_
        · unfold execOp; rw [hop]
          simp [resolve, h1, toList_one h2, toList_one h3, invoke, builtin]
        · simp only [runP] at hr
          unfold rLlen at hr
          split at hr <;> first | (injection hr with hr; subst hr; exact noc_sound rfl) | cases hr
      · cases hk
    · cases hk
  | ext i =>
    simp only [okPrim] at hk
    split at hk
    · rename_i x i' hop
      simp only [Bool.and_eq_true, decide_eq_true_eq] at hk
      obtain ⟨rfl, hk⟩ := hk
      refine fin (s := Instr.extract (ρ x) i) (by unfold execOp; rw [hop]) (s_ext (hρ hk) hr) ?_
      simp only [runP] at hr
      unfold rExt at hr
      split at hr
      · obtain ⟨e', _, hr⟩ := Option.map_eq_some_iff.1 hr
        subst hr; exact noClaim_strip _
      · cases hr
    · cases hk
  | fld off n =>
    simp only [okPrim] at hk
    split at hk
    · rename_i t x fi hop
      simp only [Bool.and_eq_true] at hk
      obtain ⟨fs, f, h1, h2, h3, h4⟩ := fldD hk.1
      obtain ⟨j, d, h5, h6, h7⟩ := varD h4
      refine fin (s := Instr.field t (ρ x) fi) (by unfold execOp; rw [hop]) (s_fld h1 h2 rfl h3 h5 h6 h7 (hρ hk.2) hr) ?_
      simp only [runP] at hr
      unfold rFld at hr
      split at hr
      · exact loadV_noClaim hr
      · cases hr
    · cases hk
  | build zero ps =>
    simp only [okPrim] at hk
    split at hk
    · rename_i t parts hop
      simp only [Bool.and_eq_true] at hk
      obtain ⟨⟨h1, h2⟩, hk⟩ := hk
      unfold zeroIs at h1
      split at h1
      · rename_i it hit
        split at h1
        · rename_i z hz
          unfold okPlaces at h2
          split at h2
          · rename_i place hpl
            have ha := hρ hk
            refine fin (s := Instr.build t (parts.map fun (i, x) => (i, ρ x))) (by unfold execOp; rw [hop]) (s_build hit hz h1 hpl ?_ ?_ hr) ?_
            · have : parts.toList.map (fun p => place p.1) = ps.map some := by
                have h2' := eq_of_beq h2
                rw [List.map_map] at h2'
                exact h2'
              rw [Array.toList_map, List.map_map, ← this]; rfl
            · rw [Array.toList_map, List.map_map]
              rw [List.map_map] at ha
              exact ha
            · simp only [runP] at hr
              unfold rBuild at hr
              split at hr
              · obtain ⟨e', _, hr⟩ := Option.map_eq_some_iff.1 hr
                subst hr; exact noc_sound rfl
              · cases hr
          · cases h2
        · cases h1
      · cases h1
    · cases hk
  | builds zero ps =>
    simp only [okPrim] at hk
    split at hk
    · rename_i t parts hop
      simp only [Bool.and_eq_true] at hk
      obtain ⟨⟨h1, h2⟩, hk⟩ := hk
      unfold zeroIs at h1
      split at h1
      · rename_i it hit
        split at h1
        · rename_i z hz
          unfold okPlaces at h2
          split at h2
          · rename_i place hpl
            have ha := hρ hk
            refine fin (s := Instr.build t (parts.map fun (i, x) => (i, ρ x))) (by unfold execOp; rw [hop]) (s_builds hit hz h1 hpl ?_ ?_ hr) ?_
            · have : parts.toList.map (fun p => place p.1) = ps.map some := by
                have h2' := eq_of_beq h2
                rw [List.map_map] at h2'
                exact h2'
              rw [Array.toList_map, List.map_map, ← this]; rfl
            · rw [Array.toList_map, List.map_map]
              rw [List.map_map] at ha
              exact ha
            · simp only [runP] at hr
              unfold rBuilds at hr
              split at hr
              · obtain ⟨e', _, hr⟩ := Option.map_eq_some_iff.1 hr
                subst hr; exact noc_sound rfl
              · cases hr
          · cases h2
        · cases h1
      · cases h1
    · cases hk
  | i2s =>
    simp only [okPrim] at hk
    split at hk
    · rename_i t t' x hop
      simp only [Bool.and_eq_true] at hk
      refine fin (s := convert t t' (ρ x)) (by unfold execOp; rw [hop]) (s_i2s hk.1.1 (strD hk.1.2) (hρ hk.2) hr) ?_
      simp only [runP] at hr
      unfold rI2s at hr
      split at hr <;> first | (injection hr with hr; subst hr; exact noc_sound rfl) | cases hr
    · cases hk
  | convi k =>
    simp only [okPrim] at hk
    split at hk
    · rename_i t t' x hop
      simp only [Bool.and_eq_true] at hk
      obtain ⟨ds, h1, _⟩ := undIs_ex hk.1.1
      refine fin (s := convert t t' (ρ x)) (by unfold execOp; rw [hop]) (s_convi h1 (intD hk.1.2) (hρ hk.2) hr) ?_
      simp only [runP] at hr
      unfold rConvi at hr
      split at hr <;> first | (injection hr with hr; subst hr; exact noc_sound rfl) | cases hr
    · cases hk
  | b2s =>
    simp only [okPrim] at hk
    split at hk
    · rename_i t d x hop
      simp only [Bool.and_eq_true] at hk
      obtain ⟨⟨h1, h2⟩, hk⟩ := hk
      split at h2
      · rename_i e' hu
        refine fin (s := convert t d (ρ x)) (by unfold execOp; rw [hop]) (s_b2s hI hu (isByteT_und h2) (strD h1) (hρ hk) hr) ?_
        simp only [runP] at hr
        unfold rB2s at hr
        split at hr
        · obtain ⟨e', _, hr⟩ := Option.map_eq_some_iff.1 hr
          subst hr; exact noc_sound rfl
        · cases hr
      · cases h2
    · cases hk
  | mkf fn nf =>
    simp only [okPrim] at hk
    split at hk
    · rename_i fn' f c hop
      simp only [Bool.and_eq_true, decide_eq_true_eq, beq_iff_eq] at hk
      obtain ⟨⟨rfl, h1⟩, hk⟩ := hk
      have ha := hρ hk
      refine fin (s := Instr.makeFunc fn (f.map ρ) (c.map ρ)) (by unfold execOp; rw [hop]) (s_mkf (by simpa using h1) (by simpa using ha) hr) ?_
      simp only [runP, rMkf, Option.some.injEq] at hr
      subst hr; exact noc_sound rfl
    · cases hk
  | nilchk =>
    simp only [okPrim] at hk
    split at hk
    · rename_i x hop
      have ha := hρ hk
      simp only [runP] at hr
      unfold rNilchk at hr
      split at hr
      · rename_i cs he
        rw [he] at ha
        obtain ⟨v, hv, hs⟩ := SRepL.one ha
        simp at hv
        obtain ⟨b, o', vs, hvv, _⟩ := hs.cptr_inv
        injection hr with hr; subst hr
        refine ⟨v, ?_, hs, noc_sound rfl⟩
        unfold execOp; rw [hop]
        simp only [hv, hvv]; rfl
      · rename_i l t o' he
        rw [he] at ha
        obtain ⟨v, hv, hs⟩ := SRepL.one ha
        simp at hv
        obtain ⟨b, _, hvv⟩ := hs.ptr_inv
        injection hr with hr; subst hr
        refine ⟨v, ?_, hs, noc_sound rfl⟩
        unfold execOp; rw [hop]
        simp only [hv, hvv]; rfl
      · cases hr
    · cases hk
  | _ => simp [Prim.plain] at hpl

end ops
end Go.Proofs.YtpmpofcokkgfdaaGreatDoor.Ev
