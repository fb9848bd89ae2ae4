import Derived.Test.YtpajgenngpjbaaaGreatEv4
import Derived.Great.BuildSlice
import Derived.Laws.OwnMore
import Derived.Laws.StructEq
import Derived.Laws.BytesString
/- Building structs and slice literals; slices of slices; closures. -/
namespace Go.Proofs.YtpajgenngpjbaaaGreat.Ev
open Go

theorem foldl_set (off : Nat) : ∀ (l : List Value) (k : Nat) (cells : Array Value), off + k + l.length ≤ cells.size →
    ((l.zipIdx k).foldl (fun cs (p : Value × Nat) => cs.setIfInBounds (off + p.2) p.1) cells).toList = cells.toList.take (off + k) ++ l ++ cells.toList.drop (off + k + l.length)
  | [], k, cells, _ => by simp
  | v :: l, k, cells, h => by
    simp only [List.length_cons] at h
    have ih := foldl_set off l (k + 1) (cells.setIfInBounds (off + k) v) (by simp; omega)
    simp only [List.zipIdx_cons, List.foldl_cons, ih]
    have hlt : off + k < cells.toList.length := by simp; omega
    simp only [Array.toList_setIfInBounds]
    rw [List.set_eq_take_append_cons_drop, if_pos hlt]
    have hl : (cells.toList.take (off + k)).length = off + k := by rw [List.length_take]; omega
    have e1 : (cells.toList.take (off + k) ++ v :: cells.toList.drop (off + k + 1)).take (off + (k + 1)) = cells.toList.take (off + k) ++ [v] := by
      rw [List.take_append, hl]
      rw [List.take_of_length_le (by omega)]
      rw [show off + (k + 1) - (off + k) = 1 by omega]
      rfl
    have e2 : (cells.toList.take (off + k) ++ v :: cells.toList.drop (off + k + 1)).drop (off + (k + 1) + l.length) = cells.toList.drop (off + k + (l.length + 1)) := by
      rw [List.drop_append, hl]
      rw [List.drop_of_length_le (by omega), List.nil_append]
      rw [show off + (k + 1) + l.length - (off + k) = l.length + 1 by omega, List.drop_succ_cons, List.drop_drop]
      congr 1
      omega
    rw [e1, e2]
    simp

theorem oneCell_cells {v : Value} (h : v.oneCell' = true) : v.cells = #[v] := by
  cases v <;> simp [Value.oneCell', Value.cells] at h ⊢

/-- A V that may stand in a cell stands for a value of one cell. -/
theorem okc_one {K : Know} {v : Value} {x : V} (h : Rep K v x) (hx : okc x = true) : v.oneCell' = true := by
  cases h <;> first | rfl | (simp [okc, V.isOneCell] at hx)

theorem RepL.one {K : Know} : ∀ {vs : List Value} {xs : List V}, RepL K vs xs → (∀ c ∈ xs, okc c = true) → ∀ u ∈ vs, u.oneCell' = true
  | _, _, .nil, _, u, hu => by cases hu
  | _, _, .cons r rs, h, u, hu => by
    rcases List.mem_cons.1 hu with rfl | hu
    · exact okc_one r (h _ (by simp))
    · exact RepL.one rs (fun c hc => h c (by simp [hc])) u hu

theorem okc_local {x : V} (h : okc x = true) : isLocal x = false := by
  simp only [okc, Bool.and_eq_true, Bool.not_eq_true'] at h
  exact h.1.2
theorem okc_own {x : V} (h : okc x = true) : ∀ sz xs, x ≠ .list sz xs true := by
  rintro sz xs rfl
  simp [okc, V.isOwn] at h
theorem okc_cells {x : V} (h : okc x = true) : x.cells = [x] := by
  cases x <;> first | rfl | (simp [okc, V.isOneCell] at h)

theorem data_one {G : Gh} {v : Value} {x : V} (h : SRep G v x) (hx : okc x = true) : RepL G.K v.cells.toList x.cells ∧ (∀ c ∈ x.cells, okc c = true) := by
  have hr := h.toRep (okc_local hx)
  rw [oneCell_cells (okc_one hr hx), okc_cells hx]
  exact ⟨.cons hr .nil, by simpa using hx⟩

theorem data_rep {G : Gh} {v : Value} {x : V} (h : SRep G v x) (hx : data x = true) : RepL G.K v.cells.toList x.cells ∧ (∀ c ∈ x.cells, okc c = true) := by
  cases x with
  | agg cs =>
    obtain ⟨vs, rfl, hok, hr⟩ := h.agg_inv
    exact ⟨by simpa [Value.cells, V.cells] using hr, by simpa [V.cells] using hok⟩
  | _ => exact data_one h hx

theorem splice_rep {K : Know} {vs ws : List Value} {xs ys : List V} (h : RepL K vs xs) (h' : RepL K ws ys) (off : Nat) :
    RepL K (vs.take off ++ ws ++ vs.drop (off + ws.length)) (spliceAt off ys xs) := by
  unfold spliceAt
  rw [h'.length]
  exact ((h.take off).append h').append (h.drop _)

theorem splice_okc {off : Nat} {ys xs : List V} (h : ∀ c ∈ xs, okc c = true) (h' : ∀ c ∈ ys, okc c = true) : ∀ c ∈ spliceAt off ys xs, okc c = true := by
  intro c hc
  simp only [spliceAt, List.mem_append] at hc
  rcases hc with (hc | hc) | hc
  · exact h c (List.mem_of_mem_take hc)
  · exact h' c hc
  · exact h c (List.mem_of_mem_drop hc)

theorem fill_rep {G : Gh} (place : Nat → Option (Nat × Nat)) : ∀ (parts : List (Nat × Value)) (ps : List (Nat × Nat)) (xs : List V) (cells : Array Value) (cs cs' : List V),
    parts.map (fun p => place p.1) = ps.map some → SRepL G (parts.map Prod.snd) xs → xs.all data = true → RepL G.K cells.toList cs → (∀ c ∈ cs, okc c = true) → fillV ps xs cs = some cs' →
    ∃ cells' : Array Value, Instr.fill place cells parts = some cells' ∧ RepL G.K cells'.toList cs' ∧ (∀ c ∈ cs', okc c = true) ∧ cs'.length = cs.length
  | [], [], [], cells, cs, cs', _, _, _, hc, hok, h => by
    simp only [fillV, Option.some.injEq] at h
    subst h
    exact ⟨cells, rfl, hc, hok, rfl⟩
  | (i, v) :: parts, (off, size) :: ps, x :: xs, cells, cs, cs', hp, hs, hd, hc, hok, h => by
    simp only [List.map_cons, List.cons.injEq] at hp
    simp only [List.all_cons, Bool.and_eq_true] at hd
    unfold fillV at h
    split at h
    · rename_i hh
      obtain ⟨h1, h2⟩ := hh
      cases hs with | cons hv hs =>
      obtain ⟨hr, hk⟩ := data_rep hv hd.1
      have hlen := hr.length
      have hcl := hc.length
      simp only [Array.length_toList] at hlen hcl
      have hset := foldl_set off v.cells.toList 0 cells (by simp; omega)
      simp only [Nat.add_zero] at hset
      have hnew : RepL G.K ((v.cells.toList.zipIdx 0).foldl (fun cs (p : Value × Nat) => cs.setIfInBounds (off + p.2) p.1) cells).toList (spliceAt off x.cells cs) := by
        rw [hset]; exact splice_rep hc hr off
      have hsl : (spliceAt off x.cells cs).length = cs.length := by
        simp only [spliceAt, List.length_append, List.length_take, List.length_drop]; omega
      obtain ⟨cells', h3, h4, h5, h6⟩ := fill_rep place parts ps xs _ _ cs' hp.2 hs hd.2 hnew (splice_okc hok hk) h
      refine ⟨cells', ?_, h4, h5, by omega⟩
      unfold Instr.fill
      simp only [hp.1]
      rw [if_neg (by simp; omega), ← h3]
      congr 1
      rw [← Array.foldl_toList]
      simp
    · cases h
  | [], _ :: _, _, _, _, _, hp, _, _, _, _, _ => by simp at hp
  | _ :: _, [], _, _, _, _, hp, _, _, _, _, _ => by simp at hp
  | [], [], _ :: _, _, _, _, _, hs, _, _, _, _ => by cases hs
  | (_, _) :: _, _ :: _, [], _, _, _, _, hs, _, _, _, _ => by cases hs

theorem one_of {v : Value} {c : V} {G : Gh} (hs : SRep G v c) (h : c.isOneCell = true) : v.oneCell' = true := by
  cases hs with
  | data r => cases r <;> first | rfl | (simp [V.isOneCell] at h)
  | ptr => rfl
  | func => rfl
  | slc => rfl
  | mref => rfl
  | iref => rfl
  | tup => simp [V.isOneCell] at h
  | fptr => rfl
  | sagg => simp [V.isOneCell] at h

theorem okc_sCell {c : V} (h : okc c = true) : sCell c = true := by
  simp only [okc, Bool.and_eq_true, Bool.not_eq_true'] at h
  simp only [sCell, Bool.and_eq_true, Bool.not_eq_true']
  exact ⟨h.1.1, h.2⟩

theorem one_cells {x : V} (h : x.isOneCell = true) : x.cells = [x] := by
  cases x <;> first | rfl | (simp [V.isOneCell] at h)

theorem part_rep {G : Gh} {v : Value} {x : V} (h : SRep G v x) (hx : partOk x = true) : SRepL G v.cells.toList x.cells ∧ (∀ c ∈ x.cells, sCell c = true) := by
  have one : sCell x = true → SRepL G v.cells.toList x.cells ∧ (∀ c ∈ x.cells, sCell c = true) := by
    intro hs
    have h1 : x.isOneCell = true := by simp only [sCell, Bool.and_eq_true] at hs; exact hs.1
    rw [oneCell_cells (one_of h h1), one_cells h1]
    exact ⟨.cons h .nil, by simpa using hs⟩
  cases x with
  | agg cs =>
    obtain ⟨vs, rfl, hok, hr⟩ := h.agg_inv
    exact ⟨by simpa [Value.cells, V.cells] using hr.toS, fun c hc => okc_sCell (hok c (by simpa [V.cells] using hc))⟩
  | sagg cs =>
    obtain ⟨vs, rfl, hok, hr⟩ := h.sagg_inv
    exact ⟨by simpa [Value.cells, V.cells] using hr, by simpa [V.cells] using hok⟩
  | _ => exact one hx

theorem splice_srep {G : Gh} {vs ws : List Value} {xs ys : List V} (h : SRepL G vs xs) (h' : SRepL G ws ys) (off : Nat) :
    SRepL G (vs.take off ++ ws ++ vs.drop (off + ws.length)) (spliceAt off ys xs) := by
  unfold spliceAt
  rw [h'.length]
  exact ((h.take off).append h').append (h.drop _)

theorem splice_mem {off : Nat} {ys xs : List V} {p : V → Bool} (h : ∀ c ∈ xs, p c = true) (h' : ∀ c ∈ ys, p c = true) : ∀ c ∈ spliceAt off ys xs, p c = true := by
  intro c hc
  simp only [spliceAt, List.mem_append] at hc
  rcases hc with (hc | hc) | hc
  · exact h c (List.mem_of_mem_take hc)
  · exact h' c hc
  · exact h c (List.mem_of_mem_drop hc)

theorem fill_srep {G : Gh} (place : Nat → Option (Nat × Nat)) : ∀ (parts : List (Nat × Value)) (ps : List (Nat × Nat)) (xs : List V) (cells : Array Value) (cs cs' : List V),
    parts.map (fun p => place p.1) = ps.map some → SRepL G (parts.map Prod.snd) xs → xs.all partOk = true → SRepL G cells.toList cs → (∀ c ∈ cs, sCell c = true) → fillV ps xs cs = some cs' →
    ∃ cells' : Array Value, Instr.fill place cells parts = some cells' ∧ SRepL G cells'.toList cs' ∧ (∀ c ∈ cs', sCell c = true) ∧ cs'.length = cs.length
  | [], [], [], cells, cs, cs', _, _, _, hc, hok, h => by
    simp only [fillV, Option.some.injEq] at h
    subst h
    exact ⟨cells, rfl, hc, hok, rfl⟩
  | (i, v) :: parts, (off, size) :: ps, x :: xs, cells, cs, cs', hp, hs, hd, hc, hok, h => by
    simp only [List.map_cons, List.cons.injEq] at hp
    simp only [List.all_cons, Bool.and_eq_true] at hd
    unfold fillV at h
    split at h
    · rename_i hh
      obtain ⟨h1, h2⟩ := hh
      cases hs with | cons hv hs =>
      obtain ⟨hr, hk⟩ := part_rep hv hd.1
      have hlen := hr.length
      have hcl := hc.length
      simp only [Array.length_toList] at hlen hcl
      have hset := foldl_set off v.cells.toList 0 cells (by simp; omega)
      simp only [Nat.add_zero] at hset
      have hnew : SRepL G ((v.cells.toList.zipIdx 0).foldl (fun cs (p : Value × Nat) => cs.setIfInBounds (off + p.2) p.1) cells).toList (spliceAt off x.cells cs) := by
        rw [hset]; exact splice_srep hc hr off
      have hsl : (spliceAt off x.cells cs).length = cs.length := by
        simp only [spliceAt, List.length_append, List.length_take, List.length_drop]; omega
      obtain ⟨cells', h3, h4, h5, h6⟩ := fill_srep place parts ps xs _ _ cs' hp.2 hs hd.2 hnew (splice_mem hok hk) h
      refine ⟨cells', ?_, h4, h5, by omega⟩
      unfold Instr.fill
      simp only [hp.1]
      rw [if_neg (by simp; omega), ← h3]
      congr 1
      rw [← Array.foldl_toList]
      simp
    · cases h
  | [], _ :: _, _, _, _, _, hp, _, _, _, _, _ => by simp at hp
  | _ :: _, [], _, _, _, _, hp, _, _, _, _, _ => by simp at hp
  | [], [], _ :: _, _, _, _, _, hs, _, _, _, _ => by cases hs
  | (_, _) :: _, _ :: _, [], _, _, _, _, hs, _, _, _, _ => by cases hs

section ops
variable {P : Program} {G : Gh} {w : World}

/-- Where the parts of a composite literal lie. -/
def placesOf (P : Program) (t : TypeId) : Option (Nat → Option (Nat × Nat)) :=
  match P.underlying t with
  | some (.array _ e) => (P.info? e).map fun ie => fun i => some (i * ie.size, ie.size)
  | some (.struct fields) => (fields.toList.mapM (fun f => (P.info? f.type).map fun i => (f.offset, i.size))).map fun places => fun i => places.toArray[i]?
  | _ => none

theorem s_build {t : TypeId} {it : TypeInfo} {z : Value} {zero : List V} {place : Nat → Option (Nat × Nat)} {parts : Array (Nat × Value)} {ps : List (Nat × Nat)} {xs : List V} {r : V} (hit : P.info? t = some it) (hz : it.zero = some z)
    (hzr : repCs z.cells.toList zero = true) (hpl : placesOf P t = some place) (hp : parts.toList.map (fun p => place p.1) = ps.map some) (hs : SRepL G (parts.toList.map Prod.snd) xs) (h : rBuild zero ps xs = some r) :
    ∃ cv, (Instr.build t parts).run P w = .ok cv w ∧ SRep G cv r := by
  unfold rBuild at h
  split at h
  · rename_i hd
    cases hf : fillV ps xs zero with
    | none => simp [hf] at h
    | some cs' =>
      simp only [hf, Option.map_some, Option.some.injEq] at h
      subst h
      obtain ⟨hz1, hz2⟩ := repCs_sound (K := G.K) hzr
      obtain ⟨cells', h1, h2, h3, _⟩ := fill_rep place parts.toList ps xs z.cells zero cs' hp hs hd hz1 hz2 hf
      refine ⟨.agg cells', run_build w t parts cells' ?_, .data (by simpa using Rep.agg cells'.toList cs' h3 h2)⟩
      unfold placesOf at hpl
      unfold Program.built
      simp only [hit]
      split at hpl
      · rename_i n e he
        cases hie : P.info? e with
        | none => simp [hie] at hpl
        | some ie =>
          simp only [hie, Option.map_some, Option.some.injEq] at hpl
          subst hpl
          simp only [he, hz, hie]
          exact h1
      · rename_i fields he
        cases hpm : fields.toList.mapM (fun f => (P.info? f.type).map fun i => (f.offset, i.size)) with
        | none => simp [hpm] at hpl
        | some places =>
          simp only [hpm, Option.map_some, Option.some.injEq] at hpl
          subst hpl
          simp only [he, hz, hpm]
          exact h1
      · cases hpl
  · cases h

theorem s_builds {t : TypeId} {it : TypeInfo} {z : Value} {zero : List V} {place : Nat → Option (Nat × Nat)} {parts : Array (Nat × Value)} {ps : List (Nat × Nat)} {xs : List V} {r : V} (hit : P.info? t = some it) (hz : it.zero = some z)
    (hzr : repCs z.cells.toList zero = true) (hpl : placesOf P t = some place) (hp : parts.toList.map (fun p => place p.1) = ps.map some) (hs : SRepL G (parts.toList.map Prod.snd) xs) (h : rBuilds zero ps xs = some r) :
    ∃ cv, (Instr.build t parts).run P w = .ok cv w ∧ SRep G cv r := by
  unfold rBuilds at h
  split at h
  · rename_i hd
    cases hf : fillV ps xs zero with
    | none => simp [hf] at h
    | some cs' =>
      simp only [hf, Option.map_some, Option.some.injEq] at h
      subst h
      obtain ⟨hz1, hz2⟩ := repCs_sound (K := G.K) hzr
      obtain ⟨cells', h1, h2, h3, _⟩ := fill_srep place parts.toList ps xs z.cells zero cs' hp hs hd hz1.toS (fun c hc => okc_sCell (hz2 c hc)) hf
      refine ⟨.agg cells', run_build w t parts cells' ?_, by simpa using SRep.sagg cells'.toList cs' h3 h2⟩
      unfold placesOf at hpl
      unfold Program.built
      simp only [hit]
      split at hpl
      · rename_i n e he
        cases hie : P.info? e with
        | none => simp [hie] at hpl
        | some ie =>
          simp only [hie, Option.map_some, Option.some.injEq] at hpl
          subst hpl
          simp only [he, hz, hie]
          exact h1
      · rename_i fields he
        cases hpm : fields.toList.mapM (fun f => (P.info? f.type).map fun i => (f.offset, i.size)) with
        | none => simp [hpm] at hpl
        | some places =>
          simp only [hpm, Option.map_some, Option.some.injEq] at hpl
          subst hpl
          simp only [he, hz, hpm]
          exact h1
      · cases hpl
  · cases h

theorem s_lsl {t e : TypeId} {i : TypeInfo} {sz : Nat} {a : Value} {lo hi : Option Value} {lo' hi' : Bool} {xs : List V} {r : V} (ht : P.underlying t = some (.slice e)) (hi0 : P.info? e = some i) (hsz : i.size = sz)
    (hlo : lo' = lo.isSome) (hhi : hi' = hi.isSome)
    (hs : SRepL G (a :: (lo.toList ++ hi.toList)) xs) (h : rLsl sz lo' hi' false xs = some r) : ∃ cv, (Instr.sliceAt t a lo hi none).run P w = .ok cv w ∧ SRep G cv r := by
  unfold rLsl at h
  split at h
  · rename_i sz' ys own rest
    cases hs with | cons ha hs =>
    split at h
    · rename_i hh
      obtain ⟨rfl, _⟩ := hh
      cases hb : bounds ys.length ys.length lo' hi' rest with
      | none => simp [hb] at h
      | some p =>
        obtain ⟨x, y⟩ := p
        simp only [hb, Option.map_some, Option.some.injEq] at h
        subst h
        have hz : (sizeOf e).run P w = .ok sz w := by simp [sizeOf, run_info hi0, hsz]
        rcases ha.list_inv with ⟨rfl, base, cap, rfl, hbc⟩ | ⟨b', off, cap, vs, rfl, hc, hl, hok, hK, hr⟩
        · obtain ⟨h1, h2, h3⟩ := bounds_run (P := P) (w := w) (isS := true) (cap := cap) hlo hhi rfl hs hb (Nat.zero_le _)
          simp only [List.length_nil] at h3 h1
          obtain rfl : y = 0 := by omega
          obtain rfl : x = 0 := by omega
          have hbase : base.map (fun x => x.add (0 * sz)) = base := by
            cases base <;> simp [Addr.add]
          refine ⟨.slice base 0 cap, ?_, .data ?_⟩
          · simp only [Instr.sliceAt, Instr.slice, Sem.run_bind, run_und ht, Result.andThen_ok, h1, hz, Sem.run_pure, hbase]
            simp
          · cases base with
            | none => rw [hbc rfl]; simpa using .lnil sz false
            | some a => simpa using .lemp a cap sz false
        · obtain ⟨h1, h2, h3⟩ := bounds_run (P := P) (w := w) (isS := true) (cap := cap) hlo hhi rfl hs hb hc
          have hlen : ((ys.take y).drop x).length = y - x := by rw [List.length_drop, List.length_take]; omega
          have hmem : ∀ q ∈ (ys.take y).drop x, q ∈ ys := fun q hq => List.mem_of_mem_take (List.mem_of_mem_drop hq)
          have hfl : flat ((ys.take y).drop x) = ((flat ys).drop (x * sz)).take ((y - x) * sz) := by
            rw [List.drop_take, ← flat_take (fun q hq => hl q (List.mem_of_mem_drop hq)), flat_drop hl]
          have hrun : (Instr.sliceAt t (.slice (some ⟨b', off, none⟩) ys.length cap) lo hi none).run P w =
              .ok (.slice (if cap = x then some ⟨b', off, none⟩ else some ⟨b', off + x * sz, none⟩) (y - x) (cap - x)) w := by
            simp only [Instr.sliceAt, Instr.slice, Sem.run_bind, run_und ht, Result.andThen_ok, h1, hz, Sem.run_pure, Option.map_some, addr_add]
          rw [hrun]
          by_cases hcx : cap = x
          · have hyx : y - x = 0 := by omega
            have hnil : (ys.take y).drop x = [] := List.eq_nil_of_length_eq_zero (by omega)
            rw [if_pos hcx, hyx, hnil]
            refine ⟨_, rfl, .data ?_⟩
            have := Rep.list (K := G.K) b' off (cap - x) sz [] false [] (by simp) (by simp) (by simp [flat]) (by simp) (by simp [flat]; exact .nil)
            simpa using this
          · rw [if_neg hcx]
            refine ⟨_, rfl, .data ?_⟩
            rw [← hlen]
            refine .list b' (off + x * sz) (cap - x) sz _ false ((vs.drop (x * sz)).take ((y - x) * sz)) (by rw [hlen]; omega) (fun q hq => hl q (hmem q hq)) ?_ ?_ ?_
            · rw [hfl]; exact RepL.okc_take (RepL.okc_drop hok _) _
            · intro q u hu
              rw [List.getElem?_take] at hu
              split at hu
              · rw [List.getElem?_drop] at hu
                rw [Nat.add_assoc]; exact hK _ _ hu
              · cases hu
            · rw [hfl]; exact (hr.drop _).take _
    · cases h
  · rename_i l t' o sz' n rest
    cases hs with | cons ha hs =>
    split at h
    · rename_i hh
      obtain ⟨rfl, _⟩ := hh
      cases hb : bounds n n lo' hi' rest with
      | none => simp [hb] at h
      | some p =>
        obtain ⟨x, y⟩ := p
        simp only [hb, Option.map_some, Option.some.injEq] at h
        subst h
        have hz : (sizeOf e).run P w = .ok sz w := by simp [sizeOf, run_info hi0, hsz]
        obtain ⟨bb, nn, off, cap, ⟨g1, g2, g3⟩, hlc, hcap, rfl⟩ := ha.slc_inv
        obtain ⟨h1, h2, h3⟩ := bounds_run (P := P) (w := w) (isS := true) (cap := cap) hlo hhi rfl hs hb hlc.1
        have hrun : (Instr.sliceAt t (.slice (some ⟨bb, off, none⟩) n cap) lo hi none).run P w =
            .ok (.slice (if cap = x then some ⟨bb, off, none⟩ else some ⟨bb, off + x * sz, none⟩) (y - x) (cap - x)) w := by
          simp only [Instr.sliceAt, Instr.slice, Sem.run_bind, run_und ht, Result.andThen_ok, h1, hz, Sem.run_pure, Option.map_some, addr_add]
        rw [hrun]
        by_cases hcx : cap = x
        · rw [if_pos hcx]
          exact ⟨_, rfl, .slc l t' _ sz _ bb nn off _ g1 g2 g3 ⟨by omega, by omega⟩ (.inl (by omega))⟩
        · rw [if_neg hcx]
          refine ⟨_, rfl, .slc l t' _ sz _ bb nn _ _ g1 g2 g3 ⟨by omega, by omega⟩ (.inr ?_)⟩
          rcases hcap with h0 | ⟨rfl, h0⟩
          · omega
          · refine ⟨rfl, ?_⟩
            have : (x + (cap - x)) * sz = cap * sz := by congr 1; omega
            rw [Nat.add_mul] at this
            omega
    · cases h
  · cases h

theorem s_lsl0 {t e : TypeId} {i : TypeInfo} {sz : Nat} {a b c : Value} {xs : List V} {r : V} (ht : P.underlying t = some (.slice e)) (hi0 : P.info? e = some i) (hsz : i.size = sz)
    (hs : SRepL G [a, b, c] xs) (h : rLsl0 sz xs = some r) : ∃ base, (Instr.sliceAt t a none (some b) (some c)).run P w = .ok (.slice base 0 0) w ∧ r = .list sz [] true := by
  unfold rLsl0 at h
  split at h
  · rename_i sz' ys own k k'
    cases hs with | cons ha hs => cases hs with | cons hb hs => cases hs with | cons hc hs =>
    split at h
    · rename_i hh
      subst hh
      injection h with h; subst h
      have hz : (sizeOf e).run P w = .ok sz w := by simp [sizeOf, run_info hi0, hsz]
      rw [hb.int_inv, hc.int_inv]
      obtain ⟨base, len, cap, rfl⟩ : ∃ base len cap, a = .slice base len cap := by
        rcases ha.list_inv with ⟨_, base, cap, h1, _⟩ | ⟨b', off, cap, vs, h1, _⟩
        · exact ⟨_, _, _, h1⟩
        · exact ⟨_, _, _, h1⟩
      refine ⟨base, ?_, rfl⟩
      simp only [Instr.sliceAt, Instr.slice, Sem.run_bind, run_und ht, Result.andThen_ok, Instr.sliceBounds, Instr.sliceBound, asIntOf, hz, Sem.run_pure]
      rw [if_pos ⟨by omega, by omega⟩]
      simp [hz]
    · cases h
  · cases h

theorem chunk_length (sz : Nat) : ∀ (n : Nat) (cs : List V), (chunk sz n cs).length = n
  | 0, _ => rfl
  | n + 1, cs => by simp [chunk, chunk_length sz n]

theorem chunk_flat {sz : Nat} (hsz : 0 < sz) : ∀ (n : Nat) (cs : List V), cs.length = n * sz → (∀ c ∈ cs, okc c = true) → flat (chunk sz n cs) = cs ∧ ∀ x ∈ chunk sz n cs, x.cells.length = sz
  | 0, cs, h, _ => by
    have : cs = [] := List.eq_nil_of_length_eq_zero (by simpa using h)
    subst this
    simp [chunk, flat]
  | n + 1, cs, h, hok => by
    rw [Nat.add_mul, Nat.one_mul] at h
    obtain ⟨h1, h2⟩ := chunk_flat hsz n (cs.drop sz) (by rw [List.length_drop]; omega) (fun c hc => hok c (List.mem_of_mem_drop hc))
    have hhead : (if sz = 1 then cs.headD .junk else .agg (cs.take sz)).cells = cs.take sz := by
      by_cases h1 : sz = 1
      · subst h1
        cases cs with
        | nil => simp at h
        | cons c r =>
          simp only [if_true, List.headD_cons, List.take_succ_cons, List.take_zero]
          exact okc_cells (hok c (by simp))
      · rw [if_neg h1]; rfl
    refine ⟨?_, fun x hx => ?_⟩
    · simp only [chunk, flat, hhead, h1, List.take_append_drop]
    · simp only [chunk, List.mem_cons] at hx
      rcases hx with rfl | hx
      · rw [hhead, List.length_take]; omega
      · exact h2 x hx

theorem s_asl {t e : TypeId} {n sz : Nat} {i : TypeInfo} {a : Value} {xs : List V} {r : V} (ht : P.underlying t = some (.array n e)) (hi : P.info? e = some i) (hsz : i.size = sz)
    (hs : SRepL G [a] xs) (h : rAsl n sz xs = some r) : ∃ cv, (Instr.sliceAt t a none none none).run P w = .ok cv w ∧ SRep G cv r := by
  have hz : (sizeOf e).run P w = .ok sz w := by simp [sizeOf, run_info hi, hsz]
  unfold rAsl at h
  split at h
  · rename_i cs
    cases hs with | cons ha hs =>
    obtain ⟨bb, o, vs, rfl, hok, hK, hr⟩ := ha.cptr_inv
    split at h
    · rename_i hh
      injection h with h; subst h
      obtain ⟨f1, f2⟩ := chunk_flat hh.1 n cs hh.2 hok
      have hl := chunk_length sz n cs
      refine ⟨.slice (some ⟨bb, o, none⟩) n n, ?_, .data ?_⟩
      · simp only [Instr.sliceAt, Sem.run_bind, run_und ht, Result.andThen_ok, Instr.sureAddr, Instr.sliceBounds, hz, Sem.run_pure]
        by_cases h0 : n = 0
        · subst h0; simp
        · rw [if_neg h0]; simp [addr_add]
      · have := Rep.list (K := G.K) bb o n sz (chunk sz n cs) false vs (by rw [hl]; exact Nat.le_refl _) f2 (by rw [f1]; exact hok) hK (by rw [f1]; exact hr)
        rw [hl] at this
        exact this
    · cases h
  · cases h

theorem s_mkf {fn : Fn} {nf : Nat} {f c : Array Value} {xs : List V} {r : V} (hf : f.size = nf) (hs : SRepL G (f.toList ++ c.toList) xs) (h : rMkf fn nf xs = some r) :
    ∃ cv, (Instr.makeFunc fn f c).run P w = .ok cv w ∧ SRep G cv r := by
  simp only [rMkf, Option.some.injEq] at h
  subst h
  refine ⟨.func fn f c, rfl, ?_⟩
  have h1 := hs.take nf
  have h2 := hs.drop nf
  rw [List.take_left' (by simpa using hf)] at h1
  rw [List.drop_left' (by simpa using hf)] at h2
  simpa using SRep.func fn f.toList c.toList _ _ h1 h2

end ops
end Go.Proofs.YtpajgenngpjbaaaGreat.Ev

/- The frame's invariant through an operation that only computes, makes a row, appends, makes a box, writes a box; ownership that goes from place to place. -/
namespace Go.Proofs.YtpajgenngpjbaaaGreat.Ev
open Go

theorem strip1_strip1 (x : V) : x.strip1.strip1 = x.strip1 := by cases x <;> rfl
theorem strip_strip (x : V) : x.strip.strip = x.strip := by
  cases x <;> try rfl
  simp only [V.strip, List.map_map]
  congr 1
  apply List.map_congr_left
  intro y _
  exact strip1_strip1 y
theorem strip_own (x : V) (sz : Nat) (xs : List V) : x.strip ≠ .list sz xs true := by cases x <;> simp [V.strip]

theorem stripTakes_get : ∀ (l : List AArg) (e : Env) (t : Nat), get (stripTakes e l) t = get e t ∨ get (stripTakes e l) t = (get e t).strip
  | [], e, t => .inl rfl
  | .t _ :: l, e, t => stripTakes_get l e t
  | .c _ :: l, e, t => stripTakes_get l e t
  | .k n :: l, e, t => by
    have h := stripTakes_get l (put e n (get e n).strip) t
    simp only [stripTakes]
    rw [get_put] at h
    by_cases ht : t = n
    · subst ht
      simp only [if_true, strip_strip] at h
      exact .inr (h.elim id id)
    · simp only [ht, if_false] at h
      exact h

theorem stripTakes_claim {l : List AArg} {e : Env} {t i : Nat} {p : Nat × List V} (h : claim (get (stripTakes e l) t) i = some p) : claim (get e t) i = some p := by
  rcases stripTakes_get l e t with h1 | h1
  · rw [← h1]; exact h
  · rw [h1, noClaim_strip] at h; cases h

theorem stripTakes_claims {G : Gh} {w : World} {f : Nat → Own} {v : Value} {l : List AArg} {e : Env} {t : Nat} (h : Claims G w f v (get e t)) : Claims G w f v (get (stripTakes e l) t) :=
  fun i sz xs hc => h i sz xs (stripTakes_claim hc)

theorem stripTakes_taken {l : List AArg} {n : Nat} (hl : .k n ∈ l) {e : Env} : noClaim (get (stripTakes e l) n) := by
  induction l generalizing e with
  | nil => cases hl
  | cons x l ih =>
    rcases List.mem_cons.1 hl with rfl | hl'
    · simp only [stripTakes]
      intro i
      cases hc : claim (get (stripTakes (put e n (get e n).strip) l) n) i with
      | none => rfl
      | some p =>
        have := stripTakes_claim hc
        rw [get_put, if_pos rfl, noClaim_strip] at this
        cases this
    · cases x <;> exact ih hl'

theorem stripTakes_rep {G : Gh} {v : Value} {e : Env} {t : Nat} (l : List AArg) (h : SRep G v (get e t)) : SRep G v (get (stripTakes e l) t) := by
  rcases stripTakes_get l e t with h1 | h1 <;> rw [h1]
  · exact h
  · exact h.strip

theorem put_getD (a : Act) (d : Nat) (v : Value) (t : Nat) (hd : d < a.tmps.size) : (a.put (some d) v).tmps.getD t Go.undef = if t = d then v else a.tmps.getD t Go.undef := by
  simp only [Act.put, Array.getD_eq_getD_getElem?, Array.getElem?_setIfInBounds]
  by_cases h : d = t
  · subst h; simp [hd]
  · simp [h, Ne.symm h]

theorem put_size (a : Act) (d : Option Nat) (v : Value) : (a.put d v).tmps.size = a.tmps.size := by cases d <;> simp [Act.put]
theorem put_defers (a : Act) (d : Option Nat) (v : Value) : (a.put d v).defers = a.defers := by cases d <;> rfl

/-- Slots after an operation: the destination has what came out, the others what they had (or less). -/
theorem put_slots {G : Gh} {a : Act} {e : Env} {d : Option Nat} {N : Nat} (hN : a.tmps.size = N) (hd : ∀ t, d = some t → t < N) {cv : Value} {r : V} (hr : d ≠ none → SRep G cv r) (h : ∀ t, SRep G (a.tmps.getD t Go.undef) (get e t)) (l : List AArg) (t : Nat) :
    SRep G ((a.put d cv).tmps.getD t Go.undef) (get (putO (stripTakes e l) d r) t) := by
  cases d with
  | none => exact stripTakes_rep l (h t)
  | some d =>
    rw [put_getD _ _ _ _ (by rw [hN]; exact hd d rfl)]
    simp only [putO, get_put]
    by_cases ht : t = d
    · simp only [ht, if_true]; exact hr (by simp)
    · simp only [ht, if_false]; exact stripTakes_rep l (h t)

theorem put_claims {G : Gh} {w : World} {L : Nat} {a : Act} {e : Env} {d : Option Nat} {N : Nat} (hN : a.tmps.size = N) (hd : ∀ t, d = some t → t < N) {cv : Value} {r : V} (ho : ∀ t, d = some t → Claims G w (.slot L t) cv r) {l : List AArg}
    (h : ∀ t, d ≠ some t → Claims G w (.slot L t) (a.tmps.getD t Go.undef) (get (stripTakes e l) t)) (t : Nat) :
    Claims G w (.slot L t) ((a.put d cv).tmps.getD t Go.undef) (get (putO (stripTakes e l) d r) t) := by
  cases d with
  | none => exact h t (by simp)
  | some d =>
    rw [put_getD _ _ _ _ (by rw [hN]; exact hd d rfl)]
    simp only [putO, get_put]
    by_cases ht : t = d
    · subst ht; simp only [if_true]; exact ho _ rfl
    · simp only [ht, if_false]; exact h t (by simpa using Ne.symm ht)

/-- What of the world an operation of the frame may have turned: the blocks of X. -/
structure Chg (X : Nat → Prop) (G : Gh) (w : World) (G' : Gh) (w' : World) : Prop where
  lv : G'.lv = G.lv
  K : KLe G.K G'.K
  lam : ∀ l t p, G.lam l t = some p → G'.lam l t = some p
  size : w.heap.size ≤ w'.heap.size
  os : w'.os = w.os
  tape : w'.tape = w.tape
  output : w'.output = w.output
  blk : ∀ b, b < w.heap.size → ¬ X b → w'.heap[b]? = w.heap[b]? ∧ (∀ o, G'.K b o = G.K b o) ∧ G'.phi b = G.phi b

section chg
variable {G0 : Gh} {w0 : World} {L : Nat} {G : Gh} {w : World} {X : Nat → Prop} {G' : Gh} {w' : World}

theorem Chg.gle (c : Chg X G w G' w') : GLe G G' := ⟨by rw [c.lv]; exact Nat.le_refl _, c.K, fun l t p _ => c.lam l t p⟩

theorem heap_lt {w : World} {b : Nat} {o : Obj} (h : w.heap[b]? = some o) : b < w.heap.size := (Array.getElem?_eq_some_iff.1 h).1

theorem Chg.own (c : Chg X G w G' w') {o : Own} {sz : Nat} {xs : List V} {v : Value} (h : OwnOK G w o sz xs v) (hX : ∀ b, G.phi b = some o → b < w.heap.size → ¬ X b) : OwnOK G' w' o sz xs v := by
  rcases h with h | ⟨g, cap, cur, e, fz, h1, h2, h3, hz, h4, h5, h6, h7⟩
  · exact .inl h
  · have hg := heap_lt h3
    obtain ⟨c1, c2, c3⟩ := c.blk g hg (hX g h2 hg)
    exact .inr ⟨g, cap, cur, e, fz, h1, by rw [c3]; exact h2, by rw [c1]; exact h3, hz, h4, h5, h6, fun o ho => by rw [c2]; exact h7 o ho⟩

theorem Chg.claims (c : Chg X G w G' w') {f : Nat → Own} {v : Value} {x : V} (h : Claims G w f v x) (hX : ∀ b i, G.phi b = some (f i) → b < w.heap.size → ¬ X b) : Claims G' w' f v x :=
  fun i sz xs hc => c.own (h i sz xs hc) (fun b => hX b i)

theorem Chg.box (c : Chg X G w G' w') (hi : ∀ l t p, G.lam l t = some p → p.1 < w.heap.size) {l t : Nat} {cs : List V} (h : BoxOK G w l t cs)
    (hX : ∀ b, (G.phi b = some (.box l t) ∨ ∃ i, G.phi b = some (.cell l t i)) → b < w.heap.size → ¬ X b) : BoxOK G' w' l t cs := by
  refine ⟨fun hl hne => ?_, fun hl => ?_⟩
  · obtain ⟨⟨b, cur, e, fz, h1, h2, h3, h4, h5, h6, h7⟩, hd⟩ := h.1 hl hne
    have hb := heap_lt h3.1
    obtain ⟨c1, c2, c3⟩ := c.blk b hb (hX b (.inl h2) hb)
    exact ⟨⟨b, cur, e, fz, c.lam _ _ _ h1, by rw [c3]; exact h2, by rw [c1]; exact h3, h4, h5.mono c.gle, fun o => by rw [c2]; exact h6 o,
      fun i sz xs v hc hv => c.own (h7 i sz xs v hc hv) (fun b hp => hX b (.inr ⟨i, hp⟩))⟩, hd⟩
  · obtain ⟨b, n, h1, h2, h3, h4⟩ := (h.2 hl).ex
    have hb := hi _ _ _ h1
    subst hl
    obtain ⟨c1, c2, c3⟩ := c.blk b hb (hX b (.inl h2) hb)
    refine ⟨⟨b, n, c.lam _ _ _ h1, by rw [c3]; exact h2, fun o => by rw [c2]; exact h3 o, ?_⟩⟩
    rw [c1]
    rcases h4 with ⟨kd, ks, vs, es, e1, e2, e3, e4, e5, e6, e7⟩ | h4
    · exact .inl ⟨kd, ks, vs, es, e1, e2, e3, e4.mono c.K, e5.mono c.K, e6, e7⟩
    · exact .inr h4

theorem Chg.ext (c : Chg X G w G' w') (h : Ext L G0 w0 G w) (hX : ∀ b, b < w0.heap.size → (∀ o, G0.phi b = some o → isMem o = false) → ¬ X b)
    (hbox : ∀ b l t, l < L → G.phi b = some (.box l t) → G.phi b = some (.box l t) → G'.phi b = some (.box l t)) : Ext L G0 w0 G' w' :=
  ⟨fun b o v hv => c.K _ _ _ (h.K b o v hv), fun l t p hl hp => c.lam _ _ _ (h.lam l t p hl hp), Nat.le_trans h.size c.size, c.os.trans h.os, c.tape.trans h.tape, c.output.trans h.output,
   fun b hb hn => by
     obtain ⟨e1, e2, e3⟩ := h.blk b hb hn
     obtain ⟨c1, c2, c3⟩ := c.blk b (Nat.lt_of_lt_of_le hb h.size) (hX b hb hn)
     exact ⟨c1.trans e1, fun o => (c2 o).trans (e2 o), c3.trans e3⟩,
   fun b l t hl hb => by
     obtain ⟨t', ht⟩ := h.box b l t hl hb
     exact ⟨t', hbox b l t' hl ht ht⟩⟩

theorem Chg.ext' (c : Chg X G w G' w') (h : Ext L G0 w0 G w) (hX : ∀ b, b < w0.heap.size → (∀ o, G0.phi b = some o → isMem o = false) → ¬ X b)
    (hbox : ∀ b l t, l < L → G.phi b = some (.box l t) → ∃ t', G'.phi b = some (.box l t')) : Ext L G0 w0 G' w' :=
  ⟨fun b o v hv => c.K _ _ _ (h.K b o v hv), fun l t p hl hp => c.lam _ _ _ (h.lam l t p hl hp), Nat.le_trans h.size c.size, c.os.trans h.os, c.tape.trans h.tape, c.output.trans h.output,
   fun b hb hn => by
     obtain ⟨e1, e2, e3⟩ := h.blk b hb hn
     obtain ⟨c1, c2, c3⟩ := c.blk b (Nat.lt_of_lt_of_le hb h.size) (hX b hb hn)
     exact ⟨c1.trans e1, fun o => (c2 o).trans (e2 o), c3.trans e3⟩,
   fun b l t hl hb => by
     obtain ⟨t', ht⟩ := h.box b l t hl hb
     exact hbox b l t' hl ht⟩

end chg

theorem cell_of_heap {w : World} {b o : Nat} {cur : Array Value} {e : TypeId} {f : Nat × Nat} (h : w.heap[b]? = some (.cells cur e f)) : w.cell? ⟨b, o, none⟩ = cur[o]? := by
  simp [World.cell?, h]

theorem cell_same {w w' : World} {b o : Nat} (h : w'.heap[b]? = w.heap[b]?) : w'.cell? ⟨b, o, none⟩ = w.cell? ⟨b, o, none⟩ := by
  simp [World.cell?, h]

theorem kh_lt {G : Gh} {w : World} (h : ∀ b o v, G.K b o = some v → w.cell? ⟨b, o, none⟩ = some v) {b o : Nat} {v : Value} (hv : G.K b o = some v) : b < w.heap.size :=
  World.block_lt_of_cell? w _ (h b o v hv)

/-- Ownership goes on: from a place to another, or is given up. -/
def Gh.ren (G : Gh) (σ : Own → Option Own) : Gh := { G with phi := fun b => (G.phi b).bind σ }

/-- From place q to place p. -/
def mvOwn (q p : Own) : Own → Option Own := fun o => some (if o = q then p else o)

theorem ren_gle (G : Gh) (σ : Own → Option Own) : GLe G (G.ren σ) := ⟨Nat.le_refl _, fun _ _ _ h => h, fun _ _ _ _ h => h⟩

theorem OwnOK.ren {G : Gh} {w : World} {q p : Own} {sz : Nat} {xs : List V} {v : Value} {σ : Own → Option Own} (h : OwnOK G w q sz xs v) (hs : σ q = some p) : OwnOK (G.ren σ) w p sz xs v := by
  rcases h with h | ⟨g, cap, cur, e, fz, h1, h2, h3, h4⟩
  · exact .inl h
  · exact .inr ⟨g, cap, cur, e, fz, h1, by simp [Gh.ren, h2, hs], h3, h4⟩

theorem Claims.ren {G : Gh} {w : World} {f g : Nat → Own} {v : Value} {x : V} {σ : Own → Option Own} (h : Claims G w f v x) (hs : ∀ i p, claim x i = some p → σ (f i) = some (g i)) : Claims (G.ren σ) w g v x :=
  fun i sz xs hc => (h i sz xs hc).ren (hs i _ hc)

theorem BoxOK.ren {G : Gh} {w : World} {l t : Nat} {cs : List V} {σ : Own → Option Own} (h : BoxOK G w l t cs) (hb : σ (.box l t) = some (.box l t)) (hc : ∀ i, σ (.cell l t i) = some (.cell l t i)) : BoxOK (G.ren σ) w l t cs := by
  refine ⟨fun hl hne => ?_, fun hl => ?_⟩
  · obtain ⟨⟨b, cur, e, fz, h1, h2, h3, h4, h5, h6, h7⟩, hd⟩ := h.1 hl hne
    exact ⟨⟨b, cur, e, fz, h1, by simp [Gh.ren, h2, hb], h3, h4, h5.mono (ren_gle G σ), h6, fun i sz xs v hcc hv => (h7 i sz xs v hcc hv).ren (hc i)⟩, hd⟩
  · obtain ⟨b, n, h1, h2, h3, h4⟩ := (h.2 hl).ex
    subst hl
    exact ⟨⟨b, n, h1, by simp [Gh.ren, h2, hb], h3, h4⟩⟩

section
variable {G0 : Gh} {w0 : World} {L N : Nat} {G : Gh} {a : Act} {s : St} {w : World}

theorem Ext.ren (h : Ext L G0 w0 G w) {σ : Own → Option Own} (h0 : ∀ b o, G0.phi b = some o → lowOwn L o) (hbox : ∀ l t, l < L → σ (.box l t) = some (.box l t)) (hlow : ∀ l t i, l < L → σ (.slot l t i) = some (.slot l t i)) : Ext L G0 w0 (G.ren σ) w := by
  refine ⟨h.K, h.lam, h.size, h.os, h.tape, h.output, fun b hb hn => ?_, fun b l t hl hb => by
    obtain ⟨t', ht⟩ := h.box b l t hl hb
    exact ⟨t', by simp [Gh.ren, ht, hbox l t' hl]⟩⟩
  obtain ⟨e1, e2, e3⟩ := h.blk b hb hn
  refine ⟨e1, e2, ?_⟩
  show (G.phi b).bind σ = _
  rw [e3]
  cases hp : G0.phi b with
  | none => rfl
  | some o =>
    have h1 := h0 b o hp
    have h2 := hn o hp
    cases o with
    | slot l t i => exact hlow l t i h1
    | box l t => cases h2
    | cell l t i => cases h2
    | ret i => exact h1.elim

/-- An operation that only computes. -/
theorem FInv.putOwn (h : FInv G0 w0 L N G a s w) {d : Option Nat} (hd : ∀ t, d = some t → t < N) {cv : Value} {r : V} (hr : SRep G cv r) (ho : ∀ t, d = some t → Claims G w (.slot L t) cv r) (l : List AArg) :
    FInv G0 w0 L N G (a.put d cv) { s with env := putO (stripTakes s.env l) d r } w :=
  ⟨h.inv, h.lvl, h.two, by rw [put_size]; exact h.size, by rw [put_defers]; exact h.defers, put_slots h.size hd (fun _ => hr) h.slots l, put_claims h.size hd ho (fun t _ => stripTakes_claims (h.own t)), h.ext, h.fresh0, h.fresh⟩

theorem FInv.putPure (h : FInv G0 w0 L N G a s w) {d : Option Nat} (hd : ∀ t, d = some t → t < N) {cv : Value} {r : V} (hr : SRep G cv r) (ho : noClaim r) (l : List AArg) :
    FInv G0 w0 L N G (a.put d cv) { s with env := putO (stripTakes s.env l) d r } w :=
  h.putOwn hd hr (fun _ _ => Claims.none ho) l

/-- A guarded operation that is not carried out. -/
theorem FInv.putUndef (h : FInv G0 w0 L N G a s w) {d : Option Nat} (hd : ∀ t, d = some t → t < N) : FInv G0 w0 L N G (a.put d Go.undef) { s with env := putO s.env d .undef } w :=
  h.putPure hd (.data .undef) (fun i => by cases i <;> rfl) []

/-- Ownership goes from place to place: slots and memory stand. -/
theorem FInv.putRen (h : FInv G0 w0 L N G a s w) {σ : Own → Option Own} (hbox : ∀ l t, σ (.box l t) = some (.box l t)) (hcell : ∀ l t i, σ (.cell l t i) = some (.cell l t i)) (hlow : ∀ l t i, l < L → σ (.slot l t i) = some (.slot l t i))
    (hfr : ∀ o o', lowOwn (L + 1) o → σ o = some o' → lowOwn (L + 1) o') {d : Option Nat} (hd : ∀ t, d = some t → t < N) {cv : Value} {r : V} (hr : SRep G cv r) (ho : ∀ t, d = some t → Claims (G.ren σ) w (.slot L t) cv r) {l : List AArg}
    (hs : ∀ t i p, d ≠ some t → claim (get (stripTakes s.env l) t) i = some p → σ (.slot L t i) = some (.slot L t i)) :
    FInv G0 w0 L N (G.ren σ) (a.put d cv) { s with env := putO (stripTakes s.env l) d r } w := by
  refine ⟨⟨h.inv.lv, h.inv.two, h.inv.kh, fun l t cs hm => (h.inv.mem l t cs hm).ren (hbox l t) (hcell l t), h.inv.lamBox, h.inv.lamL, fun b hb => h.inv.phiL b (fun h0 => hb (by simp [Gh.ren, h0]))⟩,
    h.lvl, h.two, by rw [put_size]; exact h.size, by rw [put_defers]; exact h.defers, put_slots h.size hd (fun _ => hr.mono (ren_gle G σ)) (fun t => (h.slots t).mono (ren_gle G σ)) l,
    put_claims h.size hd ho (fun t ht => ?_), h.ext.ren h.fresh0 (fun l t _ => hbox l t) hlow, h.fresh0, fun b o hb => ?_⟩
  · exact (stripTakes_claims (h.own t)).ren (fun i p hc => hs t i p ht hc)
  · obtain ⟨o1, h1, h2⟩ := bind_some_iff.1 (show (G.phi b).bind σ = some o from hb)
    exact hfr o1 o (h.fresh b o1 h1) h2

/-- Slot n's row goes to slot d. -/
theorem FInv.putMove (h : FInv G0 w0 L N G a s w) {d n sz : Nat} {xs : List V} (hd : d < N) (hx : get s.env n = .list sz xs true) (l : List AArg) (hl : .k n ∈ l) :
    FInv G0 w0 L N (G.ren (mvOwn (.slot L n 0) (.slot L d 0))) (a.put (some d) (a.tmps.getD n Go.undef)) { s with env := put (stripTakes s.env l) d (.list sz xs true) } w := by
  have hs := h.slots n
  rw [hx] at hs
  have hc := h.own n
  rw [hx] at hc
  refine h.putRen (d := some d) (r := .list sz xs true) (fun l t => by simp [mvOwn]) (fun l t i => by simp [mvOwn]) (fun l t i hl => by simp [mvOwn]; intro h1; omega) (fun o o' h1 h2 => ?_) (by rintro t ht; cases ht; exact hd) hs
    (fun t ht => ?_) (fun t i p ht hc' => ?_)
  · simp only [mvOwn, Option.some.injEq] at h2
    subst h2
    split
    · simp [lowOwn]
    · exact h1
  · cases ht
    refine hc.ren (fun i p hi => ?_)
    cases i with
    | zero => simp [mvOwn]
    | succ i => cases hi
  · simp only [mvOwn]
    rw [if_neg]
    intro h1
    cases h1
    rw [stripTakes_taken hl] at hc'
    cases hc'

/-- Place i of slot n's tuple goes to slot d. -/
theorem FInv.putExt (h : FInv G0 w0 L N G a s w) {d : Option Nat} {n i sz : Nat} {xs ys : List V} {us : List Value} {cv : Value} (hd : ∀ t, d = some t → t < N) (hx : get s.env n = .tup ys) (hy : ys[i]? = some (.list sz xs true)) (hu : a.tmps.getD n Go.undef = .tuple us.toArray) (hcv : us[i]? = some cv)
    (hr : SRep G cv (.list sz xs true)) (l : List AArg) (hl : .k n ∈ l) :
    ∃ G', FInv G0 w0 L N G' (a.put d cv) { s with env := putO (stripTakes s.env l) d (.list sz xs true) } w := by
  cases d with
  | none => exact ⟨G, h.putOwn (d := none) hd hr (by simp) l⟩
  | some d =>
  have hc := h.own n
  rw [hx, hu] at hc
  have h0 := hc (i + 1) sz xs (by simp [claim, hy])
  refine ⟨G.ren (mvOwn (.slot L n (i + 1)) (.slot L d 0)), h.putRen (d := some d) (r := .list sz xs true) (fun l t => by simp [mvOwn]) (fun l t i => by simp [mvOwn]) (fun l t i hl => by simp [mvOwn]; intro h1; omega) (fun o o' h1 h2 => ?_) hd hr
    (fun t ht => ?_) (fun t i p ht hc' => ?_)⟩
  · simp only [mvOwn, Option.some.injEq] at h2
    subst h2
    split
    · simp [lowOwn]
    · exact h1
  · cases ht
    intro j sz' xs' hj
    cases j with
    | zero =>
      cases hj
      have : comp (.tuple us.toArray) (i + 1) = cv := by simp [comp, hcv]
      rw [this] at h0
      exact h0.ren (by simp [mvOwn])
    | succ j => cases hj
  · simp only [mvOwn]
    rw [if_neg]
    intro h1
    cases h1
    rw [stripTakes_taken hl] at hc'
    cases hc'

/-- A new block, of which the first k cells are known, owned by a place. -/
def Gh.fresh (G : Gh) (B k : Nat) (cells : Array Value) (o : Own) : Gh :=
  { G with K := fun b i => if b = B then (if i < k then cells[i]? else none) else G.K b i, phi := fun b => if b = B then some o else G.phi b }

theorem fresh_chg {B k : Nat} {cells : Array Value} {o : Own} {e : TypeId} {fz : Nat × Nat} {M : Mem} (hi : Inv G w M) (hB : B = w.heap.size) : Chg (fun _ => False) G w (G.fresh B k cells o) (w.alloc (.cells cells e fz)) := by
  subst hB
  refine ⟨rfl, fun b i v hv => ?_, fun _ _ _ h => h, by simp, rfl, rfl, rfl, fun b hb _ => ⟨heap_alloc_old w _ b hb, fun i => ?_, ?_⟩⟩
  · have hb := kh_lt hi.kh hv
    show (if b = w.heap.size then _ else _) = _
    rw [if_neg (by omega)]; exact hv
  · show (if b = w.heap.size then _ else _) = _
    rw [if_neg (by omega)]
  · show (if b = w.heap.size then _ else _) = _
    rw [if_neg (by omega)]

theorem fresh_kh {B k : Nat} {cells : Array Value} {o : Own} {e : TypeId} {fz : Nat × Nat} {M : Mem} (hi : Inv G w M) (hB : B = w.heap.size) :
    ∀ b i v, (G.fresh B k cells o).K b i = some v → (w.alloc (.cells cells e fz)).cell? ⟨b, i, none⟩ = some v := by
  subst hB
  intro b i v hv
  replace hv : (if b = w.heap.size then (if i < k then cells[i]? else none) else G.K b i) = some v := hv
  by_cases hb : b = w.heap.size
  · subst hb
    simp only [if_true] at hv
    split at hv
    · rw [cell_of_heap (heap_alloc_new w _)]; exact hv
    · cases hv
  · rw [if_neg hb] at hv
    rw [World.cell?_alloc_old _ _ _ hb]
    exact hi.kh b i v hv

theorem fresh_phiL {B k : Nat} {cells : Array Value} {o : Own} {e : TypeId} {fz : Nat × Nat} {M : Mem} (hi : Inv G w M) (hB : B = w.heap.size) : ∀ b, (G.fresh B k cells o).phi b ≠ none → b < (w.alloc (.cells cells e fz)).heap.size := by
  subst hB
  intro b hb
  by_cases h : b = w.heap.size
  · simp; omega
  · have : G.phi b ≠ none := by
      intro h0; apply hb
      show (if b = w.heap.size then _ else _) = _
      rw [if_neg h]; exact h0
    have := hi.phiL b this
    simp; omega

/-- A new row that slot d owns: a slice literal, an append that grew. -/
theorem FInv.putRow (h : FInv G0 w0 L N G a s w) {d sz cap : Nat} {cells : Array Value} {e : TypeId} {fz : Nat × Nat} {xs : List V} (hd : d < N) (hfz : noFz fz cells.size) (hcs : cells.size = cap * sz) (hle : xs.length ≤ cap) (hcap : cap ≤ maxLen)
    (hsz : ∀ x ∈ xs, x.cells.length = sz) (hok : ∀ c ∈ flat xs, okc c = true) (hr : RepL G.K (cells.toList.take (xs.length * sz)) (flat xs)) (l : List AArg) :
    ∃ G', FInv G0 w0 L N G' (a.put (some d) (.slice (some ⟨w.heap.size, 0, none⟩) xs.length cap)) { s with env := put (stripTakes s.env l) d (.list sz xs true) } (w.alloc (.cells cells e fz)) := by
  have c := fresh_chg (k := xs.length * sz) (cells := cells) (o := .slot L d 0) (e := e) (fz := fz) h.inv rfl
  have hlist : Rep (G.fresh w.heap.size (xs.length * sz) cells (.slot L d 0)).K (.slice (some ⟨w.heap.size, 0, none⟩) xs.length cap) (.list sz xs true) := by
    refine .list _ _ _ _ _ _ (cells.toList.take (xs.length * sz)) hle hsz hok (fun i v hv => ?_) (hr.mono c.K)
    show (if w.heap.size = w.heap.size then _ else _) = _
    rw [if_pos rfl]
    rw [List.getElem?_take] at hv
    split at hv
    · rename_i hi
      rw [if_pos (by omega), Nat.zero_add]
      simpa using hv
    · cases hv
  refine ⟨G.fresh w.heap.size (xs.length * sz) cells (.slot L d 0), ⟨h.inv.lv, h.inv.two, fresh_kh h.inv rfl, fun l t cs hm => c.box h.inv.lamL (h.inv.mem l t cs hm) (fun _ _ _ hf => hf), h.inv.lamBox, fun l t b hl => ?_, fresh_phiL h.inv rfl⟩, h.lvl, h.two, by rw [put_size]; exact h.size, by rw [put_defers]; exact h.defers,
    put_slots (d := some d) h.size (by rintro t ht; cases ht; exact hd) (fun _ => .data hlist) (fun t => (h.slots t).mono c.gle) l, put_claims (d := some d) h.size (by rintro t ht; cases ht; exact hd) (fun t ht => ?_) (fun t _ => c.claims (stripTakes_claims (h.own t)) (fun _ _ _ _ hf => hf)),
    c.ext h.ext (fun _ _ _ hf => hf) (fun b l t hl h0 h1 => ?_), h.fresh0, fun b o hb => ?_⟩
  · have := h.inv.lamL l t b hl
    simp; omega
  · cases ht
    intro i sz' xs' hc
    cases i with
    | succ i => cases hc
    | zero =>
      cases hc
      refine .inr ⟨w.heap.size, cap, cells, e, fz, .inl rfl, ?_, heap_alloc_new w _, hfz, hcs, hle, hcap, fun o ho => ?_⟩
      · show (if w.heap.size = w.heap.size then _ else _) = _
        rw [if_pos rfl]
      · show (if w.heap.size = w.heap.size then _ else _) = _
        rw [if_pos rfl, if_neg (by omega)]
  · have := h.inv.phiL b (by rw [h1]; simp)
    show (if b = w.heap.size then _ else _) = _
    rw [if_neg (by omega)]; exact h1
  · replace hb : (if b = w.heap.size then some (.slot L d 0) else G.phi b) = some o := hb
    split at hb
    · cases hb; simp [lowOwn]
    · exact h.fresh b o hb

/-- A new block that slot d owns, or of which it knows all. -/
theorem FInv.putFresh (h : FInv G0 w0 L N G a s w) {d k : Nat} {cells : Array Value} {e : TypeId} {r : V} {cv : Value} (hd : d < N) (hr : SRep (G.fresh w.heap.size k cells (.slot L d 0)) cv r)
    (hown : Claims (G.fresh w.heap.size k cells (.slot L d 0)) (w.alloc (.cells cells e)) (.slot L d) cv r) (l : List AArg) :
    ∃ G', FInv G0 w0 L N G' (a.put (some d) cv) { s with env := put (stripTakes s.env l) d r } (w.alloc (.cells cells e)) := by
  have c := fresh_chg (k := k) (cells := cells) (o := .slot L d 0) (e := e) (fz := (0, 0)) h.inv rfl
  refine ⟨G.fresh w.heap.size k cells (.slot L d 0), ⟨h.inv.lv, h.inv.two, fresh_kh h.inv rfl, fun l t cs hm => c.box h.inv.lamL (h.inv.mem l t cs hm) (fun _ _ _ hf => hf), h.inv.lamBox, fun l t b hl => ?_, fresh_phiL h.inv rfl⟩, h.lvl, h.two, by rw [put_size]; exact h.size, by rw [put_defers]; exact h.defers,
    put_slots (d := some d) h.size (by rintro t ht; cases ht; exact hd) (fun _ => hr) (fun t => (h.slots t).mono c.gle) l, put_claims (d := some d) h.size (by rintro t ht; cases ht; exact hd) (fun t ht => by cases ht; exact hown) (fun t _ => c.claims (stripTakes_claims (h.own t)) (fun _ _ _ _ hf => hf)),
    c.ext h.ext (fun _ _ _ hf => hf) (fun b l t hl h0 h1 => ?_), h.fresh0, fun b o hb => ?_⟩
  · have := h.inv.lamL l t b hl
    simp; omega
  · have := h.inv.phiL b (by rw [h1]; simp)
    show (if b = w.heap.size then _ else _) = _
    rw [if_neg (by omega)]; exact h1
  · replace hb : (if b = w.heap.size then some (.slot L d 0) else G.phi b) = some o := hb
    split at hb
    · cases hb; simp [lowOwn]
    · exact h.fresh b o hb

/-- What slot p owned is written, and known from then on. -/
theorem FInv.putFill (h : FInv G0 w0 L N G a s w) {p g : Nat} {cur cells : Array Value} {e : TypeId} {sw : World} {r : V}
    (hphi : G.phi g = some (.slot L p 0)) (hheap : w.heap[g]? = some (.cells cur e (0, 0))) (hK : ∀ o, G.K g o = none)
    (hsw : sw.heap = w.heap.setIfInBounds g (.cells cells e (0, 0))) (ho : sw.os = w.os) (ht : sw.tape = w.tape) (hp : sw.output = w.output)
    (hr : ∀ G' : Gh, GLe G G' → (∀ i, G'.K g i = cells[i]?) → SRep G' (a.tmps.getD p Go.undef) r) (hc : noClaim r) (l : List AArg) (hl : .k p ∈ l) :
    ∃ G', FInv G0 w0 L N G' a { s with env := put (stripTakes s.env l) p r } sw := by
  have hg := heap_lt hheap
  have hgh : sw.heap[g]? = some (.cells cells e (0, 0)) := by rw [hsw]; simp [hg]
  have hoh : ∀ b, b ≠ g → sw.heap[b]? = w.heap[b]? := fun b hb => by rw [hsw]; simp [Ne.symm hb]
  let G' : Gh := { G with K := fun b i => if b = g then cells[i]? else G.K b i }
  have hKn : ∀ b, b ≠ g → ∀ i, G'.K b i = G.K b i := fun b hb i => if_neg hb
  have c : Chg (fun b => b = g) G w G' sw := by
    refine ⟨rfl, fun b i v hv => ?_, fun _ _ _ h => h, by rw [hsw]; simp, ho, ht, hp, fun b hb hne => ⟨hoh b hne, hKn b hne, rfl⟩⟩
    have : b ≠ g := by rintro rfl; rw [hK] at hv; cases hv
    rw [hKn b this]; exact hv
  have hrep : SRep G' (a.tmps.getD p Go.undef) r := hr G' c.gle (fun i => if_pos rfl)
  refine ⟨G', ⟨h.inv.lv, h.inv.two, fun b i v hv => ?_, fun l t cs hm => c.box h.inv.lamL (h.inv.mem l t cs hm) (fun b hp' _ hf => by subst hf; rw [hphi] at hp'; simp at hp'), h.inv.lamBox, fun l t b hl => ?_, fun b hb => ?_⟩, h.lvl, h.two, h.size, h.defers, fun t => ?_, fun t i sz' xs' hc' => ?_,
    c.ext h.ext (fun b hb hn hf => ?_) (fun b l t hl h0 h1 => h1), h.fresh0, h.fresh⟩
  · by_cases hb : b = g
    · subst hb
      replace hv : (if b = b then cells[i]? else G.K b i) = some v := hv
      rw [if_pos rfl] at hv
      rw [cell_of_heap hgh]; exact hv
    · rw [hKn b hb] at hv
      rw [cell_same (hoh b hb)]; exact h.inv.kh b i v hv
  · have := h.inv.lamL l t b hl
    rw [hsw]; simpa using this
  · rw [hsw]; simpa using h.inv.phiL b hb
  · show SRep _ _ (get (put (stripTakes s.env l) p r) t)
    rw [get_put]
    by_cases htp : t = p
    · subst htp; rw [if_pos rfl]; exact hrep
    · rw [if_neg htp]; exact (stripTakes_rep l (h.slots t)).mono c.gle
  · replace hc' : claim (get (put (stripTakes s.env l) p r) t) i = some (sz', xs') := hc'
    rw [get_put] at hc'
    by_cases htp : t = p
    · rw [if_pos htp, hc] at hc'; cases hc'
    · rw [if_neg htp] at hc'
      exact c.own (h.own t i sz' xs' (stripTakes_claim hc')) (fun b hb _ hf => by subst hf; rw [hphi] at hb; simp at hb; exact htp hb.1.symm)
  · subst hf
    have := (h.ext.blk b hb hn).2.2
    rw [hphi] at this
    have h1 := h.fresh0 b _ this.symm
    simp [lowOwn] at h1

/-- An append in place: slot n owned the row, slot d owns it now. -/
theorem FInv.putGrow (h : FInv G0 w0 L N G a s w) {d n sz g cap : Nat} {cur cells : Array Value} {e : TypeId} {fz0 fz : Nat × Nat} {xs ys : List V} {sw : World} (hd : d < N) (hfz : noFz fz cells.size) (_hx : get s.env n = .list sz xs true)
    (hphi : G.phi g = some (.slot L n 0)) (hheap : w.heap[g]? = some (.cells cur e fz0)) (hK : ∀ o, xs.length * sz ≤ o → G.K g o = none)
    (hsw : sw.heap = w.heap.setIfInBounds g (.cells cells e fz)) (ho : sw.os = w.os) (ht : sw.tape = w.tape) (hp : sw.output = w.output)
    (hcs : cells.size = cap * sz) (hle : (xs ++ ys).length ≤ cap) (hcap : cap ≤ maxLen) (hold : cells.toList.take (xs.length * sz) = cur.toList.take (xs.length * sz))
    (hsz : ∀ x ∈ xs ++ ys, x.cells.length = sz) (hok : ∀ c ∈ flat (xs ++ ys), okc c = true) (hr : RepL G.K (cells.toList.take ((xs ++ ys).length * sz)) (flat (xs ++ ys))) (l : List AArg) (hl : .k n ∈ l) :
    ∃ G', FInv G0 w0 L N G' (a.put (some d) (.slice (some ⟨g, 0, none⟩) (xs ++ ys).length cap)) { s with env := put (stripTakes s.env l) d (.list sz (xs ++ ys) true) } sw := by
  have hg := heap_lt hheap
  have hgh : sw.heap[g]? = some (.cells cells e fz) := by rw [hsw]; simp [hg]
  have hoh : ∀ b, b ≠ g → sw.heap[b]? = w.heap[b]? := fun b hb => by rw [hsw]; simp [Ne.symm hb]
  let G' : Gh := { G with K := fun b i => if b = g then (if i < (xs ++ ys).length * sz then cells[i]? else none) else G.K b i, phi := fun b => if b = g then some (.slot L d 0) else G.phi b }
  have hKg : ∀ i v, G.K g i = some v → i < xs.length * sz ∧ cells[i]? = some v := by
    intro i v hv
    have hi : i < xs.length * sz := by
      rcases Nat.lt_or_ge i (xs.length * sz) with h' | h'
      · exact h'
      · rw [hK i h'] at hv; cases hv
    have h1 := h.inv.kh g i v hv
    rw [cell_of_heap hheap] at h1
    refine ⟨hi, ?_⟩
    have e1 : cells.toList[i]? = cur.toList[i]? := by
      have := congrArg (fun q => q[i]?) hold
      simpa [List.getElem?_take, hi] using this
    simpa [h1] using e1
  have c : Chg (fun b => b = g) G w G' sw := by
    refine ⟨rfl, fun b i v hv => ?_, fun _ _ _ h => h, by rw [hsw]; simp, ho, ht, hp, fun b hb hne => ⟨hoh b hne, fun i => ?_, ?_⟩⟩
    · show (if b = g then _ else _) = _
      by_cases hb : b = g
      · subst hb
        obtain ⟨h1, h2⟩ := hKg i v hv
        rw [if_pos rfl, if_pos (by rw [List.length_append, Nat.add_mul]; omega)]; exact h2
      · rw [if_neg hb]; exact hv
    · show (if b = g then _ else _) = _
      rw [if_neg hne]
    · show (if b = g then _ else _) = _
      rw [if_neg hne]
  have hlist : Rep G'.K (.slice (some ⟨g, 0, none⟩) (xs ++ ys).length cap) (.list sz (xs ++ ys) true) := by
    refine .list _ _ _ _ _ _ (cells.toList.take ((xs ++ ys).length * sz)) hle hsz hok (fun i v hv => ?_) (hr.mono c.K)
    show (if g = g then _ else _) = _
    rw [if_pos rfl]
    rw [List.getElem?_take] at hv
    split at hv
    · rename_i hi
      rw [if_pos (by omega), Nat.zero_add]
      simpa using hv
    · cases hv
  refine ⟨G', ⟨h.inv.lv, h.inv.two, fun b i v hv => ?_, fun l t cs hm => c.box h.inv.lamL (h.inv.mem l t cs hm) (fun b hp' _ hf => by subst hf; rw [hphi] at hp'; simp at hp'), h.inv.lamBox, fun l t b hl => ?_, fun b hb => ?_⟩, h.lvl, h.two, by rw [put_size]; exact h.size, by rw [put_defers]; exact h.defers,
    put_slots (d := some d) h.size (by rintro t ht; cases ht; exact hd) (fun _ => .data hlist) (fun t => (h.slots t).mono c.gle) l, put_claims (d := some d) h.size (by rintro t ht; cases ht; exact hd) (fun t ht => ?_) (fun t htd => ?_),
    c.ext h.ext (fun b hb hn hf => ?_) (fun b l t hl h0 h1 => ?_), h.fresh0, fun b o hb => ?_⟩
  · replace hv : (if b = g then (if i < (xs ++ ys).length * sz then cells[i]? else none) else G.K b i) = some v := hv
    by_cases hb : b = g
    · subst hb
      simp only [if_true] at hv
      split at hv
      · rw [cell_of_heap hgh]; exact hv
      · cases hv
    · rw [if_neg hb] at hv
      rw [cell_same (hoh b hb)]; exact h.inv.kh b i v hv
  · have := h.inv.lamL l t b hl
    rw [hsw]; simpa using this
  · rw [hsw]
    by_cases hb' : b = g
    · subst hb'; simpa using hg
    · have : G.phi b ≠ none := by
        intro h0; apply hb
        show (if b = g then _ else _) = _
        rw [if_neg hb']; exact h0
      simpa using h.inv.phiL b this
  · cases ht
    intro i sz' xs' hc
    cases i with
    | succ i => cases hc
    | zero =>
      cases hc
      refine .inr ⟨g, cap, cells, e, fz, .inl rfl, ?_, hgh, hfz, hcs, hle, hcap, fun o ho => ?_⟩
      · show (if g = g then _ else _) = _
        rw [if_pos rfl]
      · show (if g = g then _ else _) = _
        rw [if_pos rfl, if_neg (by omega)]
  · intro i sz' xs' hc
    have hne : ¬ (t = n ∧ i = 0) := by
      rintro ⟨rfl, rfl⟩
      rw [stripTakes_taken hl] at hc; cases hc
    exact c.own (h.own t i sz' xs' (stripTakes_claim hc)) (fun b hb _ hf => by subst hf; rw [hphi] at hb; simp at hb; exact hne ⟨hb.1.symm, hb.2.symm⟩)
  · subst hf
    have := (h.ext.blk b hb hn).2.2
    rw [hphi] at this
    have h1 := h.fresh0 b _ this.symm
    simp [lowOwn] at h1
  · show (if b = g then _ else _) = _
    rw [if_neg (by intro hf; subst hf; rw [hphi] at h1; cases h1)]; exact h1
  · replace hb : (if b = g then some (.slot L d 0) else G.phi b) = some o := hb
    split at hb
    · cases hb; simp [lowOwn]
    · exact h.fresh b o hb

theorem putO_none (e : Env) (v : V) : putO e none v = e := rfl

/-- A new box, of whatever level, whatever stands in it. -/
theorem FInv.putNew (h : FInv G0 w0 L N G a s w) {l0 k n : Nat} {O : Obj} {cs : List V} {m' : Mem} (hm' : ∀ l t, mget m' l t = if l = l0 ∧ t = k then some cs else mget s.mem l t) (hlen : m'.length = s.mem.length)
    (hl0 : l0 < s.mem.length) (hn : mget s.mem l0 k = none)
    (hbox : ∀ G' : Gh, GLe G G' → G'.lam l0 k = some (w.heap.size, n) → G'.phi w.heap.size = some (.box l0 k) → (∀ o, G'.K w.heap.size o = none) → BoxOK G' (w.alloc O) l0 k cs)
    {d : Option Nat} (hd : ∀ t, d = some t → t < N) {cv : Value} {r : V} (hr : ∀ G' : Gh, GLe G G' → G'.lv = s.mem.length → G'.lam l0 k = some (w.heap.size, n) → SRep G' cv r) (hc : noClaim r) (l : List AArg) :
    ∃ G', FInv G0 w0 L N G' (a.put d cv) { env := putO (stripTakes s.env l) d r, mem := m' } (w.alloc O) := by
  have hlam : G.lam l0 k = none := h.inv.lamBox l0 k hl0 hn
  let G' : Gh := { G with lam := fun l t => if l = l0 ∧ t = k then some (w.heap.size, n) else G.lam l t, phi := fun b => if b = w.heap.size then some (.box l0 k) else G.phi b }
  have c : Chg (fun _ => False) G w G' (w.alloc O) := by
    refine ⟨rfl, fun _ _ _ h => h, fun l t b hb => ?_, by simp, rfl, rfl, rfl, fun b hb _ => ⟨heap_alloc_old w _ b hb, fun _ => rfl, ?_⟩⟩
    · show (if _ then _ else _) = _
      rw [if_neg (by rintro ⟨rfl, rfl⟩; rw [hlam] at hb; cases hb)]; exact hb
    · show (if b = w.heap.size then _ else _) = _
      rw [if_neg (by omega)]
  have hGlam : G'.lam l0 k = some (w.heap.size, n) := by
    show (if _ then _ else _) = _
    rw [if_pos ⟨rfl, rfl⟩]
  refine ⟨G', ⟨by show G.lv = _; rw [h.inv.lv, hlen], by rw [hlen]; exact h.inv.two, fun b i v hv => ?_, fun l t cs' hg => ?_, fun l t hl hg => ?_, fun l t p hl => ?_, fun b hb => ?_⟩, by rw [hlen]; exact h.lvl, h.two, by rw [put_size]; exact h.size, by rw [put_defers]; exact h.defers,
    put_slots h.size hd (fun _ => hr G' c.gle h.inv.lv hGlam) (fun t => (h.slots t).mono c.gle) l, put_claims h.size hd (fun t _ => Claims.none hc) (fun t _ => c.claims (stripTakes_claims (h.own t)) (fun _ _ _ _ hf => hf)),
    c.ext h.ext (fun _ _ _ hf => hf) (fun b l t hl h0 h1 => ?_), h.fresh0, fun b o hb => ?_⟩
  · have hb := kh_lt h.inv.kh (show G.K b i = some v from hv)
    rw [World.cell?_alloc_lt _ _ _ hb]; exact h.inv.kh b i v hv
  · rw [hm'] at hg
    by_cases hlt : l = l0 ∧ t = k
    · obtain ⟨rfl, rfl⟩ := hlt
      simp only [and_self, if_true, Option.some.injEq] at hg
      subst hg
      refine hbox G' c.gle hGlam ?_ (fun o => ?_)
      · show (if w.heap.size = w.heap.size then _ else _) = _
        rw [if_pos rfl]
      · cases hk : G.K w.heap.size o with
        | none => rfl
        | some v => have := kh_lt h.inv.kh hk; omega
    · rw [if_neg hlt] at hg
      exact c.box h.inv.lamL (h.inv.mem l t cs' hg) (fun _ _ _ hf => hf)
  · rw [hm'] at hg
    split at hg
    · cases hg
    · rename_i hne
      show (if _ then _ else _) = _
      rw [if_neg hne]
      exact h.inv.lamBox l t (by rw [← hlen]; exact hl) hg
  · replace hl : (if l = l0 ∧ t = k then some (w.heap.size, n) else G.lam l t) = some p := hl
    split at hl
    · cases hl; simp
    · have := h.inv.lamL l t p hl; simp; omega
  · by_cases hb' : b = w.heap.size
    · simp; omega
    · have : G.phi b ≠ none := by
        intro h0; apply hb
        show (if b = w.heap.size then _ else _) = _
        rw [if_neg hb']; exact h0
      have := h.inv.phiL b this
      simp; omega
  · have := h.inv.phiL b (by rw [h1]; simp)
    show (if b = w.heap.size then _ else _) = _
    rw [if_neg (by omega)]; exact h1
  · replace hb : (if b = w.heap.size then some (.box l0 k) else G.phi b) = some o := hb
    split at hb
    · cases hb; trivial
    · exact h.fresh b o hb

/-- A new box of cells. -/
theorem cells_new0 {w : World} {G' : Gh} {l0 k : Nat} {cells : Array Value} {e : TypeId} {cs : List V} (h1 : l0 ≠ 1) (hlam : G'.lam l0 k = some (w.heap.size, cells.size)) (hphi : G'.phi w.heap.size = some (.box l0 k)) (hK : ∀ o, G'.K w.heap.size o = none)
    (hlen : cs.length ≤ cells.size) (hr : SRepL G' (cells.toList.take cs.length) cs) (hdc : cs.all (newCell l0) = true) : BoxOK G' (w.alloc (.cells cells e)) l0 k cs := by
  have hd : ∀ c ∈ cs, dataCell l0 c = true ∧ c.isOwn = false := by
    intro c hc
    have := List.all_eq_true.1 hdc c hc
    simpa [newCell] using this
  refine ⟨fun _ _ => ⟨⟨w.heap.size, cells, e, (0, 0), hlam, hphi, ⟨heap_alloc_new w _, .inl rfl⟩, hlen, hr, hK, fun i sz xs v hc hv => ?_⟩, fun c hc => (hd c hc).1⟩, fun hl => absurd hl h1⟩
  have := (hd _ (List.mem_of_getElem? hc)).2
  simp [V.isOwn] at this

theorem SRep.ownE {G : Gh} {v : Value} {x : V} (h : SRep G v x) : SRep G v (ownE x) := by
  cases x with
  | nils sz => cases h with
    | data h => cases h; exact .data (.lnil sz true)
  | _ => exact h
theorem SRepL.ownE {G : Gh} : ∀ {vs : List Value} {xs : List V}, SRepL G vs xs → SRepL G vs (xs.map ownE)
  | _, _, .nil => .nil
  | _, _, .cons r rs => .cons r.ownE rs.ownE
theorem ownE_data {l : Nat} {x : V} (h : dataCell l x = true) : dataCell l (ownE x) = true := by cases x <;> first | exact h | rfl

/-- A new box of cells: rows that are nil are owned. -/
theorem cells_new {w : World} {G' : Gh} {l0 k : Nat} {cells : Array Value} {e : TypeId} {cs : List V} (h1 : l0 ≠ 1) (hlam : G'.lam l0 k = some (w.heap.size, cells.size)) (hphi : G'.phi w.heap.size = some (.box l0 k)) (hK : ∀ o, G'.K w.heap.size o = none)
    (hlen : cs.length ≤ cells.size) (hr : SRepL G' (cells.toList.take cs.length) cs) (hdc : cs.all (newCell l0) = true) : BoxOK G' (w.alloc (.cells cells e)) l0 k (cs.map ownE) := by
  have hd : ∀ c ∈ cs, dataCell l0 c = true ∧ c.isOwn = false := by
    intro c hc
    have := List.all_eq_true.1 hdc c hc
    simpa [newCell] using this
  refine ⟨fun _ _ => ⟨⟨w.heap.size, cells, e, (0, 0), hlam, hphi, ⟨heap_alloc_new w _, .inl rfl⟩, by rw [List.length_map]; exact hlen, by rw [List.length_map]; exact hr.ownE, hK, fun i sz xs v hc hv => ?_⟩, fun c hc => ?_⟩, fun hl => absurd hl h1⟩
  · rw [List.getElem?_map] at hc
    obtain ⟨c, hc1, hc2⟩ := Option.map_eq_some_iff.1 hc
    have hlt : i < cs.length := by
      rcases Nat.lt_or_ge i cs.length with h | h
      · exact h
      · rw [List.getElem?_eq_none h] at hc1; cases hc1
    obtain ⟨v', hv1, hv2⟩ := hr.get hc1
    rw [List.getElem?_take_of_lt hlt, Array.getElem?_toList, hv] at hv1
    cases hv1
    have hn := (hd c (List.mem_of_getElem? hc1)).2
    cases c with
    | nils sz' =>
      cases hc2
      cases hv2 with
      | data h => cases h; exact .inl ⟨rfl, none, rfl⟩
    | list sz' xs' o =>
      cases hc2
      simp [V.isOwn] at hn
    | _ => cases hc2
  · obtain ⟨c', h1, rfl⟩ := List.mem_map.1 hc
    exact ownE_data (hd c' h1).1

/-- A new box of the frame. -/
theorem FInv.putBox (h : FInv G0 w0 L N G a s w) {d : Nat} {cells : Array Value} {e : TypeId} {cs : List V} {b0 : Boxes} {m : Mem} (hd : d < N) (hm : s.mem = b0 :: m) (hn : bget b0 d = none)
    (hr : SRepL G cells.toList cs) (hdc : cs.all (newCell L) = true) (l : List AArg) :
    ∃ G', FInv G0 w0 L N G' (a.put (some d) (.pointer (some ⟨w.heap.size, 0, none⟩))) { env := put (stripTakes s.env l) d (.ptr m.length d 0), mem := bput b0 d (cs.map ownE) :: m } (w.alloc (.cells cells e)) := by
  have hL : m.length = L := by have := h.lvl; rw [hm] at this; simpa using this
  have h2 := h.two
  have hlen := hr.length
  simp only [Array.length_toList] at hlen
  refine h.putNew (l0 := L) (k := d) (n := cells.size) (cs := cs.map ownE) (fun l t => ?_) (by rw [hm]; simp) (by rw [h.lvl]; omega) (by rw [hm]; simp [mget, hL, hn]) (fun G' hG hlam hphi hK => ?_) (d := some d) (by rintro t ht; cases ht; exact hd)
    (r := .ptr m.length d 0) (fun G' hG hlv hlam => ?_) (fun i => by cases i <;> rfl) l
  · rw [hm]
    simp only [mget, hL]
    by_cases hl : l = L
    · subst hl; simp [bget_bput]
    · rw [beq_ne hl]; simp [hl]
  · refine cells_new (by omega) hlam hphi hK (by omega) ?_ hdc
    rw [List.take_of_length_le (by simp; omega)]
    exact hr.mono hG
  · rw [hL]
    exact .ptr L d 0 _ _ (by rw [hlv, h.lvl]; omega) (by omega) hlam

/-- Ownership moves, and one box is written. -/
theorem FInv.putMem (h : FInv G0 w0 L N G a s w) {l0 t0 b n : Nat} {O : Obj} {cs cs' : List V} {sw : World} (hm : mget s.mem l0 t0 = some cs)
    (hlam : G.lam l0 t0 = some (b, n)) (hphi : G.phi b = some (.box l0 t0)) (hKn : ∀ o, G.K b o = none)
    (hsw : sw.heap = w.heap.setIfInBounds b O) (ho : sw.os = w.os) (ht : sw.tape = w.tape) (hp : sw.output = w.output)
    {σ : Own → Option Own} (hsb : ∀ l t, σ (.box l t) = some (.box l t)) (hcell : ∀ l t i, ¬ (l = l0 ∧ t = t0) → σ (.cell l t i) = some (.cell l t i)) (hlow : ∀ l t i, l < L → σ (.slot l t i) = some (.slot l t i))
    (hfr : ∀ o o', lowOwn (L + 1) o → σ o = some o' → lowOwn (L + 1) o')
    (hbox : BoxOK (G.ren σ) sw l0 t0 cs') {d : Option Nat} (hd : ∀ t, d = some t → t < N) {cv : Value} {r : V} (hr : d ≠ none → SRep G cv r) (hown : ∀ t, d = some t → Claims (G.ren σ) sw (.slot L t) cv r) {l : List AArg}
    (hs : ∀ t i p, d ≠ some t → claim (get (stripTakes s.env l) t) i = some p → σ (.slot L t i) = some (.slot L t i)) :
    FInv G0 w0 L N (G.ren σ) (a.put d cv) { env := putO (stripTakes s.env l) d r, mem := mput s.mem l0 t0 cs' } sw := by
  have hb := h.inv.lamL _ _ _ hlam
  have hlt : l0 < s.mem.length := by
    rcases Nat.lt_or_ge l0 s.mem.length with h' | h'
    · exact h'
    · rw [mget_none _ _ _ h'] at hm; cases hm
  have hoh : ∀ b', b' ≠ b → sw.heap[b']? = w.heap[b']? := fun b' hb' => by rw [hsw]; simp [Ne.symm hb']
  have c : Chg (fun b' => b' = b) (G.ren σ) w (G.ren σ) sw := ⟨rfl, fun _ _ _ h => h, fun _ _ _ h => h, by rw [hsw]; simp, ho, ht, hp, fun b' _ hne => ⟨hoh b' hne, fun _ => rfl, rfl⟩⟩
  have hphi' : (G.ren σ).phi b = some (.box l0 t0) := by simp [Gh.ren, hphi, hsb]
  refine ⟨⟨by rw [mput_length]; exact h.inv.lv, by rw [mput_length]; exact h.inv.two, fun b' i v hv => ?_, fun l t q hq => ?_, fun l t hl hq => ?_, fun l t p hl => ?_, fun b' hb' => ?_⟩, by rw [mput_length]; exact h.lvl, h.two, by rw [put_size]; exact h.size, by rw [put_defers]; exact h.defers,
    put_slots h.size hd (fun hd' => (hr hd').mono (ren_gle G σ)) (fun t => (h.slots t).mono (ren_gle G σ)) l, put_claims h.size hd hown (fun t htd => ?_),
    c.ext (h.ext.ren h.fresh0 (fun l t _ => hsb l t) hlow) (fun b' hb' hn hf => ?_) (fun _ _ _ _ _ h1 => h1), h.fresh0, fun b' o hb' => ?_⟩
  · have : b' ≠ b := by intro hf; subst hf; rw [show (G.ren σ).K b' i = G.K b' i from rfl, hKn] at hv; cases hv
    rw [cell_same (hoh b' this)]; exact h.inv.kh b' i v hv
  · rw [mget_mput _ _ _ _ _ _ hlt] at hq
    by_cases hlt' : l = l0 ∧ t = t0
    · obtain ⟨rfl, rfl⟩ := hlt'
      simp only [and_self, if_true, Option.some.injEq] at hq
      subst hq
      exact hbox
    · rw [if_neg hlt'] at hq
      refine c.box h.inv.lamL ((h.inv.mem l t q hq).ren (hsb l t) (fun i => hcell l t i hlt')) (fun b' hp' _ hf => ?_)
      subst hf
      rw [hphi'] at hp'
      rcases hp' with hp' | ⟨i, hp'⟩
      · simp at hp'; exact hlt' ⟨hp'.1.symm, hp'.2.symm⟩
      · simp at hp'
  · rw [mget_mput _ _ _ _ _ _ hlt] at hq
    split at hq
    · cases hq
    · exact h.inv.lamBox l t (by rw [mput_length] at hl; exact hl) hq
  · have := h.inv.lamL l t p hl
    rw [hsw]; simpa using this
  · have := h.inv.phiL b' (fun h0 => hb' (by simp [Gh.ren, h0]))
    rw [hsw]; simpa using this
  · have h1 : Claims (G.ren σ) w (.slot L t) (a.tmps.getD t Go.undef) (get (stripTakes s.env l) t) := (stripTakes_claims (h.own t)).ren (fun i p hc => hs t i p htd hc)
    exact c.claims h1 (fun b' i hb' _ hf => by subst hf; rw [hphi'] at hb'; simp at hb')
  · subst hf
    have := (h.ext.blk b' hb' hn).2.2
    rw [hphi] at this
    have := hn _ this.symm
    simp [isMem] at this
  · obtain ⟨o1, h1, h2⟩ := bind_some_iff.1 (show (G.phi b').bind σ = some o from hb')
    exact hfr o1 o (h.fresh b' o1 h1) h2

theorem ren_id (G : Gh) : G.ren some = G := by
  unfold Gh.ren
  simp

/-- What is owned elsewhere stands, where a box is written. -/
theorem OwnOK.stored {b : Nat} {O : Obj} {sw : World} {l0 t0 : Nat} (hphi : G.phi b = some (.box l0 t0)) (hsw : sw.heap = w.heap.setIfInBounds b O) {o : Own} (ho : ∀ l t, o ≠ .box l t) {sz : Nat} {xs : List V} {v : Value} (h : OwnOK G w o sz xs v) : OwnOK G sw o sz xs v := by
  rcases h with h | ⟨g, cap, cur, e, fz, h1, h2, h3, h4⟩
  · exact .inl h
  · refine .inr ⟨g, cap, cur, e, fz, h1, h2, ?_, h4⟩
    have : b ≠ g := by
      rintro rfl
      rw [hphi] at h2
      cases h2
      exact ho _ _ rfl
    rw [hsw]
    simp only [Array.getElem?_setIfInBounds, if_neg this]
    exact h3

theorem splice_get {off : Nat} {new cs : List V} (h : off + new.length ≤ cs.length) (i : Nat) : (spliceAt off new cs)[i]? = if off ≤ i ∧ i < off + new.length then new[i - off]? else cs[i]? := by
  unfold spliceAt
  rw [List.append_assoc, List.getElem?_append]
  have e1 : (cs.take off).length = off := by rw [List.length_take]; omega
  rw [e1]
  by_cases h1 : i < off
  · rw [if_pos h1, if_neg (by omega), List.getElem?_take, if_pos h1]
  · rw [if_neg h1, List.getElem?_append]
    by_cases h2 : i - off < new.length
    · rw [if_pos h2, if_pos (by omega)]
    · rw [if_neg h2, if_neg (by omega), List.getElem?_drop]
      congr 1
      omega

theorem splice_gets {off : Nat} {new cs : List Value} (h : off + new.length ≤ cs.length) (i : Nat) : (cs.take off ++ new ++ cs.drop (off + new.length))[i]? = if off ≤ i ∧ i < off + new.length then new[i - off]? else cs[i]? := by
  rw [List.append_assoc, List.getElem?_append]
  have e1 : (cs.take off).length = off := by rw [List.length_take]; omega
  rw [e1]
  by_cases h1 : i < off
  · rw [if_pos h1, if_neg (by omega), List.getElem?_take, if_pos h1]
  · rw [if_neg h1, List.getElem?_append]
    by_cases h2 : i - off < new.length
    · rw [if_pos h2, if_pos (by omega)]
    · rw [if_neg h2, if_neg (by omega), List.getElem?_drop]
      congr 1
      omega

theorem splice_len {off : Nat} {new cs : List V} (h : off + new.length ≤ cs.length) : (spliceAt off new cs).length = cs.length := by
  simp only [spliceAt, List.length_append, List.length_take, List.length_drop]; omega

/-- A store into a box: of cells of which none is owned, or of one row, that slot n owned. -/
theorem FInv.putStore (h : FInv G0 w0 L N G a s w) {l0 t0 b off : Nat} {cur : Array Value} {e : TypeId} {fz : Nat × Nat} {cs new : List V} {news : List Value} {sw : World} (hl1 : l0 ≠ 1) (hm : mget s.mem l0 t0 = some cs)
    (hlam : G.lam l0 t0 = some (b, cur.size)) (hphi : G.phi b = some (.box l0 t0)) (hheap : w.heap[b]? = some (.cells cur e fz) ∧ noFz fz cur.size) (hcs : cs.length ≤ cur.size) (hrep : SRepL G (cur.toList.take cs.length) cs) (hKn : ∀ o, G.K b o = none)
    (hcl : ∀ i sz xs v, cs[i]? = some (.list sz xs true) → cur[i]? = some v → OwnOK G w (.cell l0 t0 i) sz xs v) (hdc : ∀ c ∈ cs, dataCell l0 c = true)
    (hoff : off + new.length ≤ cs.length) (hn : SRepL G news new) (hnd : ∀ c ∈ new, dataCell l0 c = true)
    (hsw : sw.heap = w.heap.setIfInBounds b (.cells (cur.toList.take off ++ news ++ cur.toList.drop (off + news.length)).toArray e fz)) (ho : sw.os = w.os) (ht : sw.tape = w.tape) (hp : sw.output = w.output)
    {l : List AArg} (hcase : (∀ (i sz : Nat) (xs : List V) (u : Value), new[i]? = some (.list sz xs true) → news[i]? = some u → xs = [] ∧ ∃ base, u = .slice base 0 0) ∨ ∃ n sz xs, new = [.list sz xs true] ∧ get s.env n = .list sz xs true ∧ news = [a.tmps.getD n Go.undef] ∧ .k n ∈ l)
    (v : Value) (r : V) :
    ∃ G', FInv G0 w0 L N G' (a.put none v) { env := putO (stripTakes s.env l) none r, mem := mput s.mem l0 t0 (spliceAt off new cs) } sw := by
  have hnl := hn.length
  have hb := heap_lt hheap.1
  have hgh : sw.heap[b]? = some (.cells (cur.toList.take off ++ news ++ cur.toList.drop (off + news.length)).toArray e fz) := by rw [hsw]; simp [hb]
  have hsl := splice_len hoff
  have hsize : (cur.toList.take off ++ news ++ cur.toList.drop (off + news.length)).toArray.size = cur.size := by
    simp only [List.size_toArray, List.length_append, List.length_take, List.length_drop, Array.length_toList]; omega
  have hrep' : SRepL G ((cur.toList.take off ++ news ++ cur.toList.drop (off + news.length)).take (spliceAt off new cs).length) (spliceAt off new cs) := by
    have e1 : (cur.toList.take off ++ news ++ cur.toList.drop (off + news.length)).take (spliceAt off new cs).length =
        (cur.toList.take cs.length).take off ++ news ++ (cur.toList.take cs.length).drop (off + news.length) := by
      rw [hsl]
      apply List.ext_getElem?
      intro i
      rw [splice_gets (by rw [List.length_take]; simp; omega), List.getElem?_take, splice_gets (by simp; omega), List.getElem?_take]
      by_cases h1 : off ≤ i ∧ i < off + news.length
      · rw [if_pos h1, if_pos h1, if_pos (by omega)]
      · rw [if_neg h1, if_neg h1]
    rw [e1]
    unfold spliceAt
    rw [← hnl]
    exact ((hrep.take off).append hn).append (hrep.drop _)
  have hdc' : ∀ c ∈ spliceAt off new cs, dataCell l0 c = true := by
    intro c hc
    simp only [spliceAt, List.mem_append] at hc
    rcases hc with (hc | hc) | hc
    · exact hdc c (List.mem_of_mem_take hc)
    · exact hnd c hc
    · exact hdc c (List.mem_of_mem_drop hc)
  have hold : ∀ (σ : Own → Option Own), (∀ i, σ (.cell l0 t0 i) = some (.cell l0 t0 i)) → ∀ i sz xs v, ¬ (off ≤ i ∧ i < off + new.length) → (spliceAt off new cs)[i]? = some (.list sz xs true) →
      (cur.toList.take off ++ news ++ cur.toList.drop (off + news.length)).toArray[i]? = some v → OwnOK (G.ren σ) sw (.cell l0 t0 i) sz xs v := by
    intro σ hσ i sz xs v hi hc hv
    rw [splice_get hoff, if_neg hi] at hc
    rw [List.getElem?_toArray, splice_gets (by simp; omega), if_neg (by omega)] at hv
    exact ((hcl i sz xs v hc (by simpa using hv)).stored hphi hsw (by simp)).ren (hσ i)
  rcases hcase with hno | ⟨n, sz, xs, rfl, hx, rfl, hk⟩
  · refine ⟨G, ?_⟩
    have := h.putMem (σ := some) (cs' := spliceAt off new cs) hm hlam hphi hKn hsw ho ht hp (fun _ _ => rfl) (fun _ _ _ _ => rfl) (fun _ _ _ _ => rfl) (fun o o' h1 h2 => by cases h2; exact h1) ?_ (d := none) (by simp) (cv := v) (r := r) (by simp) (by simp) (l := l) (fun _ _ _ _ _ => rfl)
    · rw [ren_id] at this; exact this
    · rw [ren_id]
      refine ⟨fun _ _ => ⟨⟨b, _, e, fz, by rw [hlam, hsize], hphi, ⟨hgh, by rw [hsize]; exact hheap.2⟩, by rw [hsl, hsize]; exact hcs, hrep', hKn, fun i sz xs v hc hv => ?_⟩, hdc'⟩, fun h1 => absurd h1 hl1⟩
      by_cases hi : off ≤ i ∧ i < off + new.length
      · rw [splice_get hoff, if_pos hi] at hc
        rw [List.getElem?_toArray, splice_gets (by simp; omega), if_pos (by omega)] at hv
        exact .inl (hno _ _ _ _ hc hv)
      · have := hold some (fun _ => rfl) i sz xs v hi hc hv
        rw [ren_id] at this; exact this
  · refine ⟨_, h.putMem (σ := mvOwn (.slot L n 0) (.cell l0 t0 off)) (cs' := spliceAt off [.list sz xs true] cs) hm hlam hphi hKn hsw ho ht hp (by simp [mvOwn]) (by simp [mvOwn]) (fun l t i hl => by simp [mvOwn]; intro h1; omega) (fun o o' h1 h2 => ?_) ?_ (d := none) (by simp) (by simp) (by simp) (l := l) (fun t i p _ hc => ?_)⟩
    · simp only [mvOwn, Option.some.injEq] at h2
      subst h2
      split
      · trivial
      · exact h1
    · refine ⟨fun _ _ => ⟨⟨b, _, e, fz, ?_, ?_, ⟨hgh, by rw [hsize]; exact hheap.2⟩, by rw [hsl, hsize]; exact hcs, hrep'.mono (ren_gle G _), hKn, fun i sz' xs' v hc hv => ?_⟩, hdc'⟩, fun h1 => absurd h1 hl1⟩
      · show G.lam l0 t0 = _
        rw [hlam, hsize]
      · simp [Gh.ren, hphi, mvOwn]
      · by_cases hi : off ≤ i ∧ i < off + 1
        · have : i = off := by omega
          subst this
          rw [splice_get hoff, if_pos (by simp)] at hc
          simp only [Nat.sub_self, List.getElem?_cons_zero, Option.some.injEq] at hc
          cases hc
          rw [List.getElem?_toArray, splice_gets (by simp at hoff ⊢; omega), if_pos (by simp)] at hv
          simp only [Nat.sub_self, List.getElem?_cons_zero, Option.some.injEq] at hv
          subst hv
          have hc := h.own n
          rw [hx] at hc
          have h0 := hc 0 sz xs rfl
          exact (h0.stored hphi hsw (by simp)).ren (by simp [mvOwn])
        · exact hold _ (by simp [mvOwn]) i sz' xs' v (by simpa using hi) hc hv
    · simp only [mvOwn]
      rw [if_neg]
      intro h1
      cases h1
      rw [stripTakes_taken hk] at hc
      cases hc

/-- What a box's cell owns is taken. -/
theorem FInv.putTake (h : FInv G0 w0 L N G a s w) {l0 t0 b off : Nat} {cur : Array Value} {e : TypeId} {fz : Nat × Nat} {cs : List V} {x : V} {cv : Value} (hl1 : l0 ≠ 1) (hm : mget s.mem l0 t0 = some cs)
    (hlam : G.lam l0 t0 = some (b, cur.size)) (hphi : G.phi b = some (.box l0 t0)) (hheap : w.heap[b]? = some (.cells cur e fz) ∧ noFz fz cur.size) (hcs : cs.length ≤ cur.size) (hrep : SRepL G (cur.toList.take cs.length) cs) (hKn : ∀ o, G.K b o = none)
    (hcl : ∀ i sz xs v, cs[i]? = some (.list sz xs true) → cur[i]? = some v → OwnOK G w (.cell l0 t0 i) sz xs v) (hdc : ∀ c ∈ cs, dataCell l0 c = true)
    (hx : cs[off]? = some x) (hv : cur[off]? = some cv) {d : Option Nat} (hd : ∀ t, d = some t → t < N) (l : List AArg) :
    ∃ G', FInv G0 w0 L N G' (a.put d cv) { env := putO (stripTakes s.env l) d x, mem := mput s.mem l0 t0 (cs.set off x.strip1) } w := by
  have hlt : off < cs.length := (List.getElem?_eq_some_iff.1 hx).1
  have hxr : SRep G cv x := by
    obtain ⟨u, hu, hr⟩ := hrep.get hx
    rw [List.getElem?_take, if_pos hlt] at hu
    have : cur[off]? = some u := by simpa using hu
    rw [hv] at this; cases this; exact hr
  have hxd := hdc x (List.mem_of_getElem? hx)
  have hnt : ∀ vs, x ≠ .tup vs := by rintro vs rfl; simp [dataCell] at hxd
  have hsd : dataCell l0 x.strip1 = true := by cases x <;> first | exact hxd | rfl
  have hsrep : SRepL G (cur.toList.take cs.length) (cs.set off x.strip1) := by
    have h1 := hrep.set off hxr.strip1
    have : (cur.toList.take cs.length).set off cv = cur.toList.take cs.length := by
      apply List.ext_getElem?
      intro i
      rw [List.getElem?_set]
      split
      · rename_i hi
        subst hi
        rw [List.getElem?_take, if_pos hlt]
        split
        · simpa using hv.symm
        · rename_i h2
          exfalso; apply h2
          rw [List.length_take]
          simp; omega
      · rfl
    rw [this] at h1
    exact h1
  have hw : w.heap = w.heap.setIfInBounds b (.cells cur e fz) := by
    apply Array.ext_getElem?
    intro i
    rw [Array.getElem?_setIfInBounds]
    split
    · rename_i hi
      subst hi
      split
      · exact hheap.1
      · rename_i h2; exact absurd (heap_lt hheap.1) h2
    · rfl
  have hds : ∀ c ∈ cs.set off x.strip1, dataCell l0 c = true := by
    intro c hc
    rcases List.mem_or_eq_of_mem_set hc with hc | rfl
    · exact hdc c hc
    · exact hsd
  have main : ∀ (σ : Own → Option Own), (∀ l t, σ (.box l t) = some (.box l t)) → (∀ l t i, ¬ (l = l0 ∧ t = t0 ∧ i = off) → σ (.cell l t i) = some (.cell l t i)) → BoxOK (G.ren σ) w l0 t0 (cs.set off x.strip1) := by
    intro σ h1 h2
    refine ⟨fun _ _ => ⟨⟨b, cur, e, fz, hlam, by simp [Gh.ren, hphi, h1], hheap, by rw [List.length_set]; exact hcs, by rw [List.length_set]; exact hsrep.mono (ren_gle G σ), hKn, fun i sz xs v hc hv' => ?_⟩, hds⟩, fun h => absurd h hl1⟩
    rw [List.getElem?_set] at hc
    split at hc
    · first
        | (injection hc with hc
           cases x <;> simp [V.strip1] at hc)
        | (split at hc
           · injection hc with hc
             cases x <;> simp [V.strip1] at hc
           · cases hc)
    · rename_i hne
      exact (hcl i sz xs v hc hv').ren (h2 l0 t0 i (by rintro ⟨_, _, rfl⟩; exact hne rfl))
  by_cases hox : ∃ sz xs, x = .list sz xs true
  · obtain ⟨sz, xs, rfl⟩ := hox
    have h0 := hcl off sz xs cv hx hv
    cases d with
    | none =>
      refine ⟨_, h.putMem (σ := some) hm hlam hphi hKn hw rfl rfl rfl (fun _ _ => rfl) (fun _ _ _ _ => rfl) (fun _ _ _ _ => rfl) (fun o o' h1 h2 => by cases h2; exact h1) (main some (fun _ _ => rfl) (fun _ _ _ _ => rfl)) (d := none) (by simp) (by simp) (by simp) (l := l) (fun _ _ _ _ _ => rfl)⟩
    | some d =>
      refine ⟨_, h.putMem (σ := fun o => if o = .cell l0 t0 off then some (.slot L d 0) else some o) hm hlam hphi hKn hw rfl rfl rfl (fun _ _ => by simp) (fun l t i hi => by rw [if_neg]; intro hf; cases hf; exact hi ⟨rfl, rfl⟩) (fun _ _ _ _ => by simp) (fun o o' h1 h2 => ?_)
        (main _ (fun _ _ => by simp) (fun l t i hi => by rw [if_neg]; intro hf; cases hf; exact hi ⟨rfl, rfl, rfl⟩)) (d := some d) hd (fun _ => hxr) (fun t ht => ?_) (l := l) (fun t i p htd _ => by simp)⟩
      · split at h2
        · cases h2; simp [lowOwn]
        · cases h2; exact h1
      · cases ht
        intro i sz' xs' hc
        cases i with
        | succ i => cases hc
        | zero =>
          cases hc
          exact h0.ren (by simp)
  · have hnc : noClaim x := noClaim_of (fun sz xs hh => hox ⟨sz, xs, hh⟩) hnt (by rintro n rfl; simp [dataCell] at hxd)
    refine ⟨_, h.putMem (σ := some) hm hlam hphi hKn hw rfl rfl rfl (fun _ _ => rfl) (fun _ _ _ _ => rfl) (fun _ _ _ _ => rfl) (fun o o' h1 h2 => by cases h2; exact h1) (main some (fun _ _ => rfl) (fun _ _ _ _ => rfl)) (d := d) hd (fun _ => hxr) (fun t _ => Claims.none hnc) (l := l) (fun _ _ _ _ _ => rfl)⟩

/-- An object of level 1 is written. -/
theorem FInv.putObj (h : FInv G0 w0 L N G a s w) {t0 b n : Nat} {O : Obj} {cs cs' : List V} {sw : World} (hm : mget s.mem 1 t0 = some cs) (hlam : G.lam 1 t0 = some (b, n)) (hphi : G.phi b = some (.box 1 t0)) (hKn : ∀ o, G.K b o = none)
    (hO : ObjIs G (some O) cs') (hsw : sw.heap = w.heap.setIfInBounds b O) (ho : sw.os = w.os) (ht : sw.tape = w.tape) (hp : sw.output = w.output)
    {d : Option Nat} (hd : ∀ t, d = some t → t < N) {cv : Value} {r : V} (hr : d ≠ none → SRep G cv r) (hc : noClaim r) (l : List AArg) :
    FInv G0 w0 L N G (a.put d cv) { env := putO (stripTakes s.env l) d r, mem := mput s.mem 1 t0 cs' } sw := by
  have hb := h.inv.lamL _ _ _ hlam
  have := h.putMem (σ := some) (cs' := cs') hm hlam hphi hKn hsw ho ht hp (fun _ _ => rfl) (fun _ _ _ _ => rfl) (fun _ _ _ _ => rfl) (fun o o' h1 h2 => by cases h2; exact h1) ?_ (d := d) hd (cv := cv) (r := r) hr (fun t _ => Claims.none hc) (l := l) (fun _ _ _ _ _ => rfl)
  · rw [ren_id] at this; exact this
  · rw [ren_id]
    refine ⟨fun h1 => absurd rfl h1, fun _ => ⟨⟨b, n, hlam, hphi, hKn, ?_⟩⟩⟩
    have : sw.heap[b]? = some O := by rw [hsw, Array.getElem?_setIfInBounds, if_pos rfl, if_pos hb]
    rw [this]
    exact hO

theorem eraseAll_get : ∀ (l : List Nat) (e : Env) (t : Nat), get (eraseAll l e) t = get e t ∨ get (eraseAll l e) t = .junk
  | [], _, _ => .inl rfl
  | x :: l, e, t => by
    have := eraseAll_get l (erase e x) t
    simp only [eraseAll]
    rw [get_erase] at this
    by_cases h : t = x
    · simp only [h, if_true] at this ⊢; exact .inr (this.elim id id)
    · simpa only [h, if_false] using this

theorem FInv.erase (h : FInv G0 w0 L N G a s w) (l : List Nat) : FInv G0 w0 L N G a { s with env := eraseAll l s.env } w := by
  refine ⟨h.inv, h.lvl, h.two, h.size, h.defers, fun t => ?_, fun t => ?_, h.ext, h.fresh0, h.fresh⟩
  · rcases eraseAll_get l s.env t with h1 | h1
    · show SRep _ _ (get (eraseAll l s.env) t)
      rw [h1]; exact h.slots t
    · show SRep _ _ (get (eraseAll l s.env) t)
      rw [h1]; exact .data (.junk _)
  · show Claims _ _ _ _ (get (eraseAll l s.env) t)
    rcases eraseAll_get l s.env t with h1 | h1
    · rw [h1]; exact h.own t
    · rw [h1]; exact Claims.none (fun i => by cases i <;> rfl)

theorem get_mem : ∀ {e : Env} {t : Nat}, get e t = .junk ∨ ∃ p ∈ e, p.2 = get e t
  | [], _ => .inl rfl
  | (s, v) :: r, t => by
    simp only [get]
    cases Nat.beq s t
    · rcases get_mem (e := r) (t := t) with h | ⟨p, hp, he⟩
      · exact .inl h
      · exact .inr ⟨p, List.mem_cons_of_mem _ hp, he⟩
    · exact .inr ⟨(s, v), List.mem_cons_self, rfl⟩

theorem bget_mem : ∀ {e : Boxes} {t : Nat} {cs : List V}, bget e t = some cs → ∃ p ∈ e, p.2 = cs
  | (s, v) :: r, t, cs, h => by
    simp only [bget] at h
    cases hb : Nat.beq s t
    · rw [hb] at h
      obtain ⟨p, hp, he⟩ := bget_mem (e := r) (t := t) h
      exact ⟨p, List.mem_cons_of_mem _ hp, he⟩
    · rw [hb] at h
      simp only [cond_true, Option.some.injEq] at h
      exact ⟨(s, v), List.mem_cons_self, h⟩

theorem mget_lt {M : Mem} {l t : Nat} {cs : List V} (h : mget M l t = some cs) : l < M.length := by
  rcases Nat.lt_or_ge l M.length with h' | h'
  · exact h'
  · rw [mget_none M l t h'] at h; cases h

def Gh.forget (G : Gh) (L t : Nat) : Gh := { G with lam := fun l k => if l = L ∧ k = t then none else G.lam l k }

theorem repOfAll {G : Gh} : ∀ {vs : List Value} {xs : List V}, SRepL G vs xs → (∀ x ∈ xs, isLocal x = false) → RepL G.K vs xs
  | _, _, .nil, _ => .nil
  | _, _, .cons r rs, h => .cons (r.toRep (h _ (by simp))) (repOfAll rs (fun x hx => h x (by simp [hx])))

/-- Box t of the frame's level is forgotten: values that do not point there stand as they stood. -/
theorem SRep.forget {v : Value} {x : V} (h : SRep G v x) {L t : Nat} (h2 : 2 ≤ L) (hp : pointsTo L t x = false) : SRep (G.forget L t) v x := by
  cases h with
  | data r => exact .data r
  | ptr l k off b n hl h1 hb =>
    refine .ptr l k off b n hl h1 ?_
    show (if _ then _ else _) = _
    rw [if_neg]
    · exact hb
    · rintro ⟨rfl, rfl⟩
      simp [pointsTo] at hp
  | slc l k off sz len b n off' cap hl h1 hb h3 h4 =>
    refine .slc l k off sz len b n off' cap hl h1 ?_ h3 h4
    show (if _ then _ else _) = _
    rw [if_neg]
    · exact hb
    · rintro ⟨rfl, rfl⟩
      simp [pointsTo] at hp
  | mref k b n hl hb =>
    refine .mref k b n hl ?_
    show (if _ then _ else _) = _
    rw [if_neg (by omega)]; exact hb
  | iref k b n hl hb =>
    refine .iref k b n hl ?_
    show (if _ then _ else _) = _
    rw [if_neg (by omega)]; exact hb
  | func fn f c f' c' h1 h2 =>
    simp [pointsTo] at hp
    obtain ⟨rfl, rfl⟩ := hp
    cases h1; cases h2
    exact .func fn [] [] [] [] .nil .nil
  | tup cs vs h1 =>
    have hl : ∀ y ∈ vs, isLocal y = false := by simpa [pointsTo] using hp
    have hz : RepL (G.forget L t).K cs vs := repOfAll (G := G) h1 hl
    exact .tup cs vs (RepL.toS (G := G.forget L t) hz)
  | fptr b n => exact .fptr b n
  | sagg cs vs h1 h2 =>
    have hl : ∀ y ∈ vs, isLocal y = false := by simpa [pointsTo] using hp
    have hz : RepL (G.forget L t).K cs vs := repOfAll (G := G) h2 hl
    exact .sagg cs vs h1 (RepL.toS (G := G.forget L t) hz)

theorem SRepL.forget {L t : Nat} (h2 : 2 ≤ L) : ∀ {vs : List Value} {xs : List V}, SRepL G vs xs → (∀ x ∈ xs, pointsTo L t x = false) → SRepL (G.forget L t) vs xs
  | _, _, .nil, _ => .nil
  | _, _, .cons r rs, h => .cons (r.forget h2 (h _ (by simp))) (SRepL.forget h2 rs (fun x hx => h x (by simp [hx])))

theorem dataCell_points {l L t : Nat} (hl : l < L) {x : V} (h : dataCell l x = true) : pointsTo L t x = false := by
  cases x <;> simp [pointsTo, dataCell] at h ⊢
  · intro h1; omega
  · exact h
  · intro h1; omega

theorem FInv.drop1 (h : FInv G0 w0 L N G a s w) {t : Nat} (hu : unpointed t s = true) :
    ∃ G', FInv G0 w0 L N G' a { s with mem := match s.mem with | [] => [] | b :: m => berase b t :: m } w := by
  cases hm : s.mem with
  | nil => simp [unpointed, hm] at hu
  | cons b0 m =>
    have hL : m.length = L := by have := h.lvl; rw [hm] at this; simpa using this
    have h2 := h.two
    simp only [unpointed, hm, Bool.and_eq_true, List.all_eq_true, Bool.not_eq_true', hL] at hu
    obtain ⟨hu1, hu2⟩ := hu
    have hget : ∀ l k, mget (berase b0 t :: m) l k = if l = L ∧ k = t then none else mget s.mem l k := by
      intro l k
      rw [hm]
      simp only [mget, hL]
      by_cases hl : l = L
      · subst hl; simp [bget_berase]
      · rw [beq_ne hl]; simp [hl]
    refine ⟨G.forget L t, ⟨by show G.lv = _; rw [h.inv.lv, hm]; rfl, by have := h.inv.two; rw [hm] at this; simpa using this, h.inv.kh, fun l k cs hq => ?_, fun l k hl hq => ?_, fun l k p hb => ?_, h.inv.phiL⟩, by simp [hL], h.two, h.size, h.defers, fun k => ?_, h.own,
      ⟨h.ext.K, fun l k p hl hp => ?_, h.ext.size, h.ext.os, h.ext.tape, h.ext.output, h.ext.blk, h.ext.box⟩, h.fresh0, h.fresh⟩
    · simp only [hget] at hq
      split at hq
      · cases hq
      · rename_i hne
        have hbox := h.inv.mem l k cs hq
        refine ⟨fun hl1 hne1 => ?_, fun hl1 => ?_⟩
        · obtain ⟨⟨b, cur, e, fz, h1, c2, c3, c4, c5, c6, c7⟩, hd⟩ := hbox.1 hl1 hne1
          refine ⟨⟨b, cur, e, fz, ?_, c2, c3, c4, c5.forget h2 (fun x hx => ?_), c6, fun i sz xs v hc hv => c7 i sz xs v hc hv⟩, hd⟩
          · show (if _ then _ else _) = _
            rw [if_neg hne]; exact h1
          · by_cases hl : l = L
            · subst hl
              have hq2 := hq
              rw [hm] at hq2
              simp only [mget, hL, Nat.beq_refl, cond_true] at hq2
              obtain ⟨p, hp, he⟩ := bget_mem hq2
              exact hu2 p hp x (by rw [he]; exact hx)
            · have hlt := mget_lt hq
              rw [h.lvl] at hlt
              exact dataCell_points (by omega) (hd x hx)
        · obtain ⟨b, n, c1, c2, c3, c4⟩ := (hbox.2 hl1).ex
          refine ⟨⟨b, n, ?_, by rw [← hl1]; rw [← hl1] at c2; exact c2, c3, c4⟩⟩
          show (if _ then _ else _) = _
          rw [if_neg (by omega)]; exact c1
    · simp only [hget] at hq
      show (if _ then _ else _) = _
      by_cases hk : l = L ∧ k = t
      · rw [if_pos hk]
      · rw [if_neg hk] at hq ⊢
        exact h.inv.lamBox l k (by rw [h.lvl]; simpa [hL] using hl) hq
    · replace hb : (if l = L ∧ k = t then none else G.lam l k) = some p := hb
      split at hb
      · cases hb
      · exact h.inv.lamL l k p hb
    · refine (h.slots k).forget h2 ?_
      rcases get_mem (e := s.env) (t := k) with h1 | ⟨p, hp, he⟩
      · rw [h1]; rfl
      · rw [← he]; exact hu1 p hp
    · show (if _ then _ else _) = _
      rw [if_neg (by omega)]; exact h.ext.lam l k p hl hp

theorem scalar_local {x : V} (h : scalar x = true) : isLocal x = false := by cases x <;> first | rfl | cases h
theorem scalar_okc {x : V} (h : scalar x = true) : okc x = true := by cases x <;> first | rfl | cases h
theorem scalar_cells {x : V} (h : scalar x = true) : x.cells = [x] := by cases x <;> first | rfl | cases h
theorem scalar_flat : ∀ {xs : List V}, xs.all scalar = true → flat xs = xs
  | [], _ => rfl
  | x :: r, h => by
    simp only [List.all_cons, Bool.and_eq_true] at h
    rw [flat, scalar_flat h.2, scalar_cells h.1]
    rfl
theorem scalar_rep {K K' : Know} {v : Value} {x : V} (h : Rep K v x) (hx : scalar x = true) : Rep K' v x := by
  cases h <;> first | (cases hx; done) | skip
  · exact .bool _
  · exact .int _ _
  · exact .str _
theorem scalar_reps {K K' : Know} : ∀ {vs : List Value} {xs : List V}, RepL K vs xs → xs.all scalar = true → RepL K' vs xs
  | _, _, .nil, _ => .nil
  | _, _, .cons r rs, h => by
    simp only [List.all_cons, Bool.and_eq_true] at h
    exact .cons (scalar_rep r h.1) (scalar_reps rs h.2)

theorem frzE_get {l t : Nat} {cs : List V} (k : Nat) : ∀ {e e' : Env}, frzE l t cs e = some e' → frz1 l t cs (get e k) = some (get e' k)
  | [], e', h => by
    simp only [frzE, Option.some.injEq] at h
    subst h; rfl
  | (q, v) :: r, e', h => by
    simp only [frzE] at h
    obtain ⟨v', h1, h2⟩ := bind_some_iff.1 h
    obtain ⟨r', h3, rfl⟩ := Option.map_eq_some_iff.1 h2
    simp only [get]
    by_cases hq : q = k
    · subst hq; simpa using h1
    · rw [beq_ne hq]; simpa using frzE_get k h3

/-- Box t of the frame's level becomes known as it stands. -/
theorem FInv.freeze (h : FInv G0 w0 L N G a s w) {t : Nat} {s' : St} (hf : freeze t s = some s') : ∃ G', FInv G0 w0 L N G' a s' w := by
  unfold Ev.freeze at hf
  split at hf
  · cases hf
  rename_i b0 m hm
  split at hf
  · cases hf
  rename_i cs hb0
  split at hf
  · rename_i hall
    simp only [Bool.and_eq_true] at hall
    obtain ⟨⟨hemp, hsc⟩, hun⟩ := hall
    have hemp' : cs ≠ [] := by simpa using hemp
    obtain ⟨e', he, rfl⟩ := Option.map_eq_some_iff.1 hf
    have hL : m.length = L := by have := h.lvl; rw [hm] at this; simpa using this
    rw [hL] at hun he
    have h2 := h.two
    have hmg : mget s.mem L t = some cs := by
      rw [hm]; simp only [mget, hL, Nat.beq_refl, cond_true]; exact hb0
    obtain ⟨⟨b, cur, ty, fz, q1, q2, q3, q4, q5, q6, q7⟩, qd⟩ := (h.inv.mem L t cs hmg).1 (by omega) hemp'
    have hget : ∀ l k, mget (berase b0 t :: m) l k = if l = L ∧ k = t then none else mget s.mem l k := by
      intro l k
      rw [hm]
      simp only [mget, hL]
      by_cases hl : l = L
      · subst hl; simp [bget_berase]
      · rw [beq_ne hl]; simp [hl]
    have hne : ∀ b' o, G.phi b' = some o → o ≠ .box L t → b' ≠ b := by
      rintro b' o ho hno rfl
      rw [q2] at ho; cases ho; exact hno rfl
    let K' : Know := fun b' o => if b' = b then (if o < cs.length then cur[o]? else none) else G.K b' o
    have hK : KLe G.K K' := fun b' o v hv => by
      show (if _ then _ else _) = _
      rw [if_neg (by rintro rfl; rw [q6] at hv; cases hv)]; exact hv
    have hK' : ∀ b', b' ≠ b → ∀ o, K' b' o = G.K b' o := fun b' hb' o => if_neg hb'
    let G' : Gh := { G.forget L t with K := K' }
    have gle : GLe (G.forget L t) G' := ⟨Nat.le_refl _, hK, fun _ _ _ _ hp => hp⟩
    have own' : ∀ (o : Own) sz xs v, o ≠ .box L t → OwnOK G w o sz xs v → OwnOK G' w o sz xs v := by
      rintro o sz xs v ho (h1 | ⟨g, cap, cur', e1, fz', h1, h3, h4⟩)
      · exact .inl h1
      · exact .inr ⟨g, cap, cur', e1, fz', h1, h3, h4.1, h4.2.1, h4.2.2.1, h4.2.2.2.1, h4.2.2.2.2.1, fun o' ho' => (hK' g (hne g o h3 ho) o').trans (h4.2.2.2.2.2 o' ho')⟩
    have hrows : RepL K' (cur.toList.take cs.length) cs := scalar_reps (repOfAll q5 (fun x hx => scalar_local (List.all_eq_true.1 hsc x hx))) hsc
    refine ⟨G', ⟨by show G.lv = _; rw [h.inv.lv, hm]; rfl, by have := h.inv.two; rw [hm] at this; simpa using this, fun b' o v hv => ?_, fun l k cs' hq => ?_, fun l k hl hq => ?_, fun l k p hb => ?_, h.inv.phiL⟩, by simp [hL], h.two, h.size, h.defers, fun k => ?_, fun k i sz xs hc => ?_,
      ⟨fun b' o v hv => hK _ _ _ (h.ext.K b' o v hv), fun l k p hl hp => ?_, h.ext.size, h.ext.os, h.ext.tape, h.ext.output, fun b' hb' hn => ?_, h.ext.box⟩, h.fresh0, h.fresh⟩
    · replace hv : (if b' = b then (if o < cs.length then cur[o]? else none) else G.K b' o) = some v := hv
      split at hv
      · rename_i hbb
        subst hbb
        split at hv
        · rw [cell_of_heap q3.1]; exact hv
        · cases hv
      · exact h.inv.kh b' o v hv
    · simp only [hget] at hq
      split at hq
      · cases hq
      · rename_i hne'
        have hbox := h.inv.mem l k cs' hq
        have hbx : (Own.box l k) ≠ .box L t := by
          intro hc; cases hc; exact hne' ⟨rfl, rfl⟩
        refine ⟨fun hl1 hne1 => ?_, fun hl1 => ?_⟩
        · obtain ⟨⟨b', cur', e, fz', h1, c2, c3, c4, c5, c6, c7⟩, hd⟩ := hbox.1 hl1 hne1
          have hbb := hne b' _ c2 hbx
          refine ⟨⟨b', cur', e, fz', ?_, c2, c3, c4, (c5.forget h2 (fun x hx => ?_)).mono gle, fun o => (hK' b' hbb o).trans (c6 o), fun i sz xs v hc hv => own' _ _ _ _ (by simp) (c7 i sz xs v hc hv)⟩, hd⟩
          · show (if _ then _ else _) = _
            rw [if_neg hne']; exact h1
          · by_cases hl : l = L
            · subst hl
              have hq2 := hq
              rw [hm] at hq2
              simp only [mget, hL, Nat.beq_refl, cond_true] at hq2
              obtain ⟨p, hp, he⟩ := bget_mem hq2
              have := List.all_eq_true.1 (List.all_eq_true.1 hun p hp) x (by rw [he]; exact hx)
              simpa using this
            · have hlt := mget_lt hq
              rw [h.lvl] at hlt
              exact dataCell_points (by omega) (hd x hx)
        · obtain ⟨b', n, c1, c2, c3, c4⟩ := (hbox.2 hl1).ex
          have hbb := hne b' _ c2 (by intro hc; cases hc; omega)
          refine ⟨⟨b', n, ?_, by rw [← hl1]; rw [← hl1] at c2; exact c2, fun o => (hK' b' hbb o).trans (c3 o), ?_⟩⟩
          · show (if _ then _ else _) = _
            rw [if_neg (by omega)]; exact c1
          · rcases c4 with ⟨kd, ks, vs, es, d1, d2, d3, d4, d5, d6, d7⟩ | c4
            · exact .inl ⟨kd, ks, vs, es, d1, d2, d3, d4.mono hK, d5.mono hK, d6, d7⟩
            · exact .inr c4
    · simp only [hget] at hq
      show (if _ then _ else _) = _
      by_cases hk : l = L ∧ k = t
      · rw [if_pos hk]
      · rw [if_neg hk] at hq ⊢
        exact h.inv.lamBox l k (by rw [h.lvl]; simpa [hL] using hl) hq
    · replace hb : (if l = L ∧ k = t then none else G.lam l k) = some p := hb
      split at hb
      · cases hb
      · exact h.inv.lamL l k p hb
    · have hz := frzE_get k he
      have hsl := h.slots k
      generalize get e' k = y at *
      generalize get s.env k = x at *
      have other : pointsTo L t x = false → y = x → SRep G' (a.tmps.getD k Go.undef) y := by
        rintro hp rfl
        exact (hsl.forget h2 hp).mono gle
      by_cases hx : ∃ l' t' o sz n, x = .slc l' t' o sz n
      · obtain ⟨l', t', o, sz, n, rfl⟩ := hx
        simp only [frz1] at hz
        split at hz
        · rename_i hlt
          obtain ⟨rfl, rfl⟩ := hlt
          split at hz
          · rename_i hc
            obtain ⟨rfl, rfl, rfl⟩ := hc
            injection hz with hz
            subst hz
            obtain ⟨b', nn, off, cap, ⟨g1, g2, g3⟩, hlc, hcap, hpe⟩ := hsl.slc_inv
            rw [q1] at g3
            cases g3
            rw [hpe]
            refine .data ?_
            rcases hcap with rfl | ⟨rfl, hcap⟩
            · have hl0 : cs.length = 0 := by omega
              obtain rfl : cs = [] := List.length_eq_zero_iff.1 hl0
              exact .lemp _ _ _ _
            · refine .list b 0 cap 1 cs false (cur.toList.take cs.length) hlc.1 (fun x hx => by rw [scalar_cells (List.all_eq_true.1 hsc x hx)]; rfl) (fun c hc => ?_) (fun i v hv => ?_) ?_
              · rw [scalar_flat hsc] at hc
                exact scalar_okc (List.all_eq_true.1 hsc c hc)
              · show (if _ then _ else _) = _
                rw [if_pos rfl]
                rw [List.getElem?_take] at hv
                split at hv
                · rename_i hlt
                  rw [if_pos (by omega), Nat.zero_add]
                  simpa using hv
                · cases hv
              · rw [scalar_flat hsc]
                exact hrows
          · cases hz
        · rename_i hlt
          injection hz with hz
          exact other (by simp only [pointsTo, Bool.and_eq_false_iff]; by_cases h1 : l' = L
                          · exact .inr (beq_ne (fun h2 => hlt ⟨h1, h2⟩))
                          · exact .inl (beq_ne h1)) hz.symm
      · have hz' : (if pointsTo L t x then none else some x) = some y := by
          cases x <;> first | exact hz | (exact absurd ⟨_, _, _, _, _, rfl⟩ hx)
        split at hz'
        · cases hz'
        · rename_i hp
          injection hz' with hz'
          exact other (by simpa using hp) hz'.symm
    · have hz := frzE_get k he
      have ho := h.own k
      replace hc : claim (get e' k) i = some (sz, xs) := hc
      generalize get e' k = y at *
      generalize get s.env k = x at *
      have other : y = x → OwnOK G' w (.slot L k i) sz xs (comp (a.tmps.getD k Go.undef) i) := by
        rintro rfl
        exact own' _ _ _ _ (by simp) (ho i sz xs hc)
      by_cases hx : ∃ l' t' o sz n, x = .slc l' t' o sz n
      · obtain ⟨l', t', o, sz', n, rfl⟩ := hx
        simp only [frz1] at hz
        split at hz
        · split at hz
          · injection hz with hz
            subst hz
            cases i <;> cases hc
          · cases hz
        · injection hz with hz
          exact other hz.symm
      · have hz' : (if pointsTo L t x then none else some x) = some y := by
          cases x <;> first | exact hz | (exact absurd ⟨_, _, _, _, _, rfl⟩ hx)
        split at hz'
        · cases hz'
        · injection hz' with hz'
          exact other hz'.symm
    · show (if _ then _ else _) = _
      rw [if_neg (by omega)]; exact h.ext.lam l k p hl hp
    · obtain ⟨e1, e2, e3⟩ := h.ext.blk b' hb' hn
      have hbb : b' ≠ b := by
        rintro rfl
        have := hn (.box L t) (by rw [← e3]; exact q2)
        cases this
      exact ⟨e1, fun o => (hK' b' hbb o).trans (e2 o), e3⟩
  · cases hf

theorem FInv.drops : ∀ (l : List Nat) {G : Gh} {s s' : St}, FInv G0 w0 L N G a s w → dropAll l s = some s' → ∃ G', FInv G0 w0 L N G' a s' w
  | [], G, s, s', h, hd => by
    simp only [dropAll, Option.some.injEq] at hd
    subst hd; exact ⟨G, h⟩
  | t :: l, G, s, s', h, hd => by
    unfold dropAll at hd
    split at hd
    · rename_i hu
      obtain ⟨G', h'⟩ := h.drop1 hu
      exact FInv.drops l h' hd
    · obtain ⟨s1, h1, h2⟩ := bind_some_iff.1 hd
      obtain ⟨G', h'⟩ := h.freeze h1
      exact FInv.drops l h' h2

end
end Go.Proofs.YtpajgenngpjbaaaGreat.Ev

/- What ties an operation of the evaluator to one of the model's (a Bool over the program), and that it then does what the evaluator says. -/
namespace Go.Proofs.YtpajgenngpjbaaaGreat.Ev
open Go

def undIs (P : Program) (t : TypeId) (p : TypeDesc → Bool) : Bool :=
  match P.underlying t with
  | some d => p d
  | none => false

def isStrD : TypeDesc → Bool | .string => true | _ => false
def isBoolD : TypeDesc → Bool | .bool => true | _ => false
def isPtrD : TypeDesc → Bool | .pointer _ => true | _ => false
def isIntD (k : IntKind) : TypeDesc → Bool | .int k' => decide (k = k') | _ => false
def sliceD (P : Program) (sz : Nat) : TypeDesc → Bool
  | .slice e => (match P.info? e with | some i => i.size == sz | none => false)
  | _ => false
def isIfcD : TypeDesc → Bool | .interface _ => true | _ => false
def isSliceD : TypeDesc → Bool | .slice _ => true | _ => false

/-- A variable of the type: so many cells (none: one, no struct). -/
def varIs (P : Program) (t : TypeId) (n : Option Nat) : Bool :=
  match P.info? t, P.underlying t with
  | some i, some d => n == aggN d i.size && n != some 0
  | _, _ => false

def fieldIs (P : Program) (t : TypeId) (fi off : Nat) (p : TypeId → Bool) : Bool :=
  match P.underlying t with
  | some (.struct fs) => (match fs[fi]? with | some f => f.offset == off && p f.type | none => false)
  | _ => false

def sizeNe0 (P : Program) (t : TypeId) : Bool :=
  match P.info? t with
  | some i => i.size != 0
  | none => false

def okFields (P : Program) : Nat → List Nat → List Field → Bool
  | _, [], [] => true
  | k, n :: ns, f :: fs => f.offset == k && f.name != "_" && (match n, P.underlying f.type with | 0, some (.int _) => true | 1, some .string => true | 2, some .bool => true | _, _ => false) && okFields P (k + 1) ns fs
  | _, _, _ => false

def okPlaces (P : Program) (t : TypeId) (idx : List Nat) (ps : List (Nat × Nat)) : Bool :=
  match placesOf P t with
  | some place => idx.map place == ps.map some
  | none => false

def zeroIs (P : Program) (t : TypeId) (zero : List V) : Bool :=
  match P.info? t with
  | some i => (match i.zero with | some z => repCs z.cells.toList zero | none => false)
  | none => false

def isAppend (P : Program) (sz bytes : Nat) (t u : TypeId) : Bool :=
  decide (t = u) && match P.underlying t with
  | some (.slice e) => (match P.info? e with
    | some i => i.size == sz && i.bytes == bytes && decide (0 < sz) && (match i.zero with | some z => z.cells.size == sz | none => false)
    | none => false)
  | _ => false

def isBslice (P : Program) (sz n len : Nat) (t : TypeId) (zero : List V) : Bool :=
  match P.underlying t with
  | some (.slice e) => (match P.info? e with
    | some i => i.size == sz && decide (0 < sz) && (len == n) && decide (n * sz ≤ 16777216) && (match i.zero with | some z => repCs ((Array.range (len * i.size)).map (z.cells[· % z.cells.size]!)).toList zero && (zero.length == n * sz) | none => false)
    | none => false)
  | _ => false

def keyD : Option IntKind → TypeDesc → Bool
  | none, .string => true
  | some k, .int k' => decide (k = k')
  | _, _ => false
def repV (z : Value) (x : V) : Bool :=
  match z, x with
  | .agg cs, .agg xs => repCs cs.toList xs
  | .agg _, _ => false
  | _, .agg _ => false
  | z, x => repC z x && okc x
def zeroV (P : Program) (t : TypeId) (zero : V) : Bool :=
  match P.info? t with
  | some i => (match i.zero with | some z => repV z zero | none => false)
  | none => false
def isMake (P : Program) (sz bytes : Nat) (zero : List V) (t : TypeId) : Bool :=
  match P.underlying t with
  | some (.slice e) => (match P.info? e with
    | some i => i.size == sz && i.bytes == bytes && decide (0 < sz) && zero.length == sz && (match i.zero with | some z => repCs z.cells.toList zero | none => false)
    | none => false)
  | _ => false
def isByteT (P : Program) (e : TypeId) : Bool :=
  undIs P e (isIntD .u8) && match P.info? e with
  | some i => i.size == 1 && i.bytes == 1 && (match i.zero with | some (.int .u8 0) => true | _ => false)
  | none => false
def isAppends (P : Program) (t u : TypeId) : Bool :=
  undIs P u isStrD && match P.underlying t with
  | some (.slice e) => isByteT P e
  | _ => false

def isK : List AArg → Bool
  | .k _ :: _ => true
  | _ => false

/-- Operations that must have a place for what they give. -/
def needsDst : Prim → Bool
  | .append .. | .bslice .. | .bslicef .. | .cvb | .allocf _ | .boxc | .storec _ | .appends | .s2b | .arow .. | .appb .. | .callf _ | .callz _ | .lsl _ _ _ true => true
  | _ => false

def callable (P : Program) (f : Nat) : Bool :=
  match P.funcs[f]? with
  | some fn => fn.name != "runtime.NumGoroutine" && fn.body.isSome
  | none => false

def okPrim (P : Program) (op : Op) (args : List AArg) : Prim → Bool
  | .mv => (match op with | .move x => okArgs [x] args | .assign x => okArgs [x] args | _ => false)
  | .pick => (match op with | .pick c a b => okArgs [c, a, b] args | _ => false)
  | .bin bo => (match op with | .binOp bo' _ x y _ => decide (bo = bo') && okArgs [x, y] args | _ => false)
  | .un .not => (match op with | .unOp .not _ x => okArgs [x] args | _ => false)
  | .un .neg => (match op with | .unOp .neg _ x => okArgs [x] args | _ => false)
  | .un _ => false
  | .beq neg => (match op with | .binOp bo t x y _ => decide (bo = if neg then .neq else .eql) && undIs P t isBoolD && okArgs [x, y] args | _ => false)
  | .seq ks neg => (match op with | .binOp bo t x y _ => decide (bo = if neg then .neq else .eql) && !P.stoodInHeld t && !P.eqGuardType P.depth t && okArgs [x, y] args &&
      (match P.underlying t with | some (.struct fs) => okFields P 0 ks fs.toList | _ => false) | _ => false)
  | .isnil neg => (match op with | .binOp bo t x (.const (.pointer none)) _ => decide (bo = if neg then .neq else .eql) && undIs P t isPtrD && okArgs [x] args | _ => false)
  | .isnils neg => (match op with | .binOp bo t x (.const (.slice none 0 0)) _ => decide (bo = if neg then .neq else .eql) && undIs P t isSliceD && okArgs [x] args | _ => false)
  | .isifc neg => (match op with | .binOp bo t x (.const .nilIface) _ => decide (bo = if neg then .neq else .eql) && undIs P t isIfcD && okArgs [x] args | _ => false)
  | .allocf n => (match op with | .alloc t => (match P.info? t with | some i => i.size == n && (match i.zero with | some z => z.cells.size == n | none => false) | none => false) && okArgs [] args | _ => false)
  | .boxc => (match op with | .box _ x => okArgs [x] args | _ => false)
  | .storec n => (match op with | .store t x v => (match P.info? t, args with | some i, [.k _, _] => i.size == n && okArgs [x, v] args | _, _ => false) | _ => false)
  | .loadc n => (match op with | .load t x => varIs P t n && okArgs [x] args | _ => false)
  | .cvb => (match op with | .convert s d x => decide (s = d) && (match P.underlying s with | some (.slice e) => isByteT P e | _ => false) && isK args && okArgs [x] args | _ => false)
  | .sidx => (match op with | .index t x i => undIs P t isStrD && okArgs [x, i] args | _ => false)
  | .aidx n sz ag => (match op with | .index t x i => okArgs [x, i] args && (match P.underlying t with | some (.array n' e) => n == n' && (match P.info? e, P.underlying e with | some j, some d => j.size == sz && ag == (aggN d 0).isSome && (ag || sz == 1) | _, _ => false) | _ => false) | _ => false)
  | .iaddr sz => (match op with | .indexAddr t x i => undIs P t (sliceD P sz) && okArgs [x, i] args | _ => false)
  | .iaddra n sz => (match op with | .indexAddr t x i => okArgs [x, i] args && (match P.underlying t with | some (.array n' e) => n == n' && (match P.info? e with | some j => j.size == sz | none => false) | _ => false) | _ => false)
  | .faddr off => (match op with | .fieldAddr t x fi => fieldIs P t fi off (sizeNe0 P) && okArgs [x] args | _ => false)
  | .load n => (match op with | .load t x => varIs P t n && okArgs [x] args | _ => false)
  | .store n => (match op with | .store t x v => (match P.info? t with | some i => i.size == n && n != 0 | none => false) && okArgs [x, v] args | _ => false)
  | .ssl lo hi => (match op with | .slice t x l h none => lo == l.isSome && hi == h.isSome && undIs P t isStrD && okArgs (x :: (l.toList ++ h.toList)) args | _ => false)
  | .lsl sz lo hi false => (match op with | .slice t x l h none => lo == l.isSome && hi == h.isSome && undIs P t (sliceD P sz) && okArgs (x :: (l.toList ++ h.toList)) args | _ => false)
  | .lsl sz _ _ true => (match op with | .slice t x none (some h) (some m) => undIs P t (sliceD P sz) && okArgs [x, h, m] args | _ => false)
  | .shf bo => (match op with | .binOp bo' _ x y _ => decide (bo = bo') && okArgs [x, y] args | _ => false)
  | .builds zero ps => (match op with | .build t parts => zeroIs P t zero && okPlaces P t (parts.toList.map (·.1)) ps && okArgs (parts.toList.map (·.2)) args | _ => false)
  | .anew zero => (match op with | .alloc t => zeroIs P t zero && okArgs [] args | _ => false)
  | .abox => (match op with | .box _ x => okArgs [x] args | _ => false)
  | .loadk => (match op with | .load t x => varIs P t none && okArgs [x] args | _ => false)
  | .extk i => (match op with | .extract x i' => decide (i = i') && isK args && okArgs [x] args | _ => false)
  | .mkmap kd => (match op with | .makeMap t none => (match P.underlying t with | some (.map k _) => undIs P k (keyD kd) | _ => false) && okArgs [] args | _ => false)
  | .mget kd ok zero => (match op with | .lookup t x i ok' => ok == ok' && (match P.underlying t with | some (.map k e) => undIs P k (keyD kd) && zeroV P e zero | _ => false) && okArgs [x, i] args | _ => false)
  | .mset kd => (match op with | .mapUpdate t m k v => (match P.underlying t with | some (.map k' _) => undIs P k' (keyD kd) | _ => false) && okArgs [m, k, v] args | .insert t m k v => (match P.underlying t with | some (.map k' _) => undIs P k' (keyD kd) | _ => false) && okArgs [m, k, v] args | _ => false)
  | .mkrow sz bytes zero => (match op with | .makeSlice t l c => isMake P sz bytes zero t && okArgs [l, c] args | _ => false)
  | .copyb sz => (match op with | .call c => (match c.callee, c.args.toList, c.argTypes.toList with | .builtin .copy, [x, y], [t, _] => undIs P t (sliceD P sz) && okArgs [x, y] args | _, _, _ => false) | _ => false)
  | .rng => (match op with | .range t x => undIs P t isStrD && okArgs [x] args | _ => false)
  | .nxt => (match op with | .next x true => okArgs [x] args | _ => false)
  | .arow sz n zero ps => (match op with | .buildSlice t len parts => isBslice P sz n len t zero && ((parts.toList.map fun p => (p.1 * sz, sz)) == ps) && okArgs (parts.toList.map (·.2)) args | _ => false)
  | .appb sz bytes => (match op with | .call c => (match c.callee, c.args.toList, c.argTypes.toList with | .builtin .append, [x, y], [t, u] => isAppend P sz bytes t u && okArgs [x, y] args | _, _, _ => false) | _ => false)
  | .loadf n => (match op with | .load t x => varIs P t (some n) && okArgs [x] args | _ => false)
  | .callf f => (match op with | .call c => (match c.callee with | .value (.func f') => decide (f = f') && okArgs c.args.toList args | _ => false) | _ => false)
  | .callz f => (match op with | .call c => (match c.callee with | .value (.func f') => decide (f = f') && okArgs c.args.toList args | _ => false) | _ => false)
  | .slen => (match op with | .call c => (match c.callee, c.args.toList, c.argTypes.toList with | .builtin .len, [x], [t] => undIs P t isStrD && okArgs [x] args | _, _, _ => false) | _ => false)
  | .llen => (match op with | .call c => (match c.callee, c.args.toList, c.argTypes.toList with | .builtin .len, [x], [t] => undIs P t isSliceD && okArgs [x] args | _, _, _ => false) | _ => false)
  | .append sz bytes => (match op with | .call c => (match c.callee, c.args.toList, c.argTypes.toList with | .builtin .append, [x, y], [t, u] => isAppend P sz bytes t u && isK args && okArgs [x, y] args | _, _, _ => false) | _ => false)
  | .appends => (match op with | .call c => (match c.callee, c.args.toList, c.argTypes.toList with | .builtin .append, [x, y], [t, u] => isAppends P t u && isK args && okArgs [x, y] args | _, _, _ => false) | _ => false)
  | .call f => (match op with | .call c => (match c.callee with | .value (.func f') => decide (f = f') && okArgs c.args.toList args | _ => false) | _ => false)
  | .callp f => (match op with | .call c => (match c.callee with | .value (.func f') => decide (f = f') && okArgs c.args.toList args | _ => false) | _ => false)
  | .callt f => (match op with | .call c => (match c.callee with | .value (.func f') => decide (f = f') && okArgs c.args.toList args | _ => false) | _ => false)
  | .callv => (match op with | .call c => (match c.callee with | .value x => okArgs (x :: c.args.toList) args | _ => false) | _ => false)
  | .ext i => (match op with | .extract x i' => decide (i = i') && okArgs [x] args | _ => false)
  | .fld off n => (match op with | .field t x fi => fieldIs P t fi off (fun u => varIs P u n) && okArgs [x] args | _ => false)
  | .build zero ps => (match op with | .build t parts => zeroIs P t zero && okPlaces P t (parts.toList.map (·.1)) ps && okArgs (parts.toList.map (·.2)) args | _ => false)
  | .bslice sz n zero ps => (match op with | .buildSlice t len parts => isBslice P sz n len t zero && ((parts.toList.map fun p => (p.1 * sz, sz)) == ps) && okArgs (parts.toList.map (·.2)) args | _ => false)
  | .bslicef sz n zero ps => (match op with | .buildSlice t len parts => isBslice P sz n len t zero && ((parts.toList.map fun p => (p.1 * sz, sz)) == ps) && okArgs (parts.toList.map (·.2)) args | _ => false)
  | .alloc zero => (match op with | .alloc t => zeroIs P t zero && okArgs [] args | _ => false)
  | .box => (match op with | .box _ x => okArgs [x] args | _ => false)
  | .i2s => (match op with | .convert s d x => (P.underlying s).isSome && undIs P d isStrD && okArgs [x] args | _ => false)
  | .convi k => (match op with | .convert s d x => undIs P s (fun _ => true) && undIs P d (isIntD k) && okArgs [x] args | _ => false)
  | .s2b => (match op with | .convert s d x => undIs P s isStrD && (match P.underlying d with | some (.slice e) => isByteT P e | _ => false) && okArgs [x] args | _ => false)
  | .b2s => (match op with | .convert s d x => undIs P d isStrD && (match P.underlying s with | some (.slice e) => isByteT P e | _ => false) && okArgs [x] args | _ => false)
  | .mkf fn nf => (match op with | .makeFunc fn' f c => decide (fn = fn') && f.size == nf && okArgs (f.toList ++ c.toList) args | _ => false)
  | .nilchk => (match op with | .nilCheck x => okArgs [x] args | _ => false)
  | .asl n sz => (match op with | .slice t x none none none => okArgs [x] args && (match P.underlying t with | some (.array n' e) => n == n' && (match P.info? e with | some j => j.size == sz | none => false) | _ => false) | _ => false)

def noc : V → Bool
  | .list _ _ true => false
  | .tup _ => false
  | .fptr _ => false
  | _ => true
theorem noc_sound {x : V} (h : noc x = true) : noClaim x := by
  refine noClaim_of (fun sz xs hx => ?_) (fun vs hx => ?_) (fun n hx => ?_) <;> subst hx <;> cases h

/-- Operations that only compute. -/
def Prim.plain : Prim → Bool
  | .mv | .cvb | .allocf _ | .boxc | .storec _ | .append .. | .appends | .bslice .. | .bslicef .. | .store _ | .alloc _ | .box | .call _ | .callv | .callp _ | .callt _ | .s2b | .extk _ | .lsl _ _ _ true => false
  | .anew _ | .abox | .loadk | .mkmap _ | .mget .. | .mset _ | .mkrow .. | .copyb _ | .rng | .nxt | .arow .. | .appb .. | .callf _ | .callz _ | .loadf _ => false
  | _ => true

section ops
variable {P : Program} {G : Gh} {w : World}

theorem undIs_ex {t : TypeId} {p : TypeDesc → Bool} (h : undIs P t p = true) : ∃ d, P.underlying t = some d ∧ p d = true := by
  unfold undIs at h
  split at h
  · exact ⟨_, by assumption, h⟩
  · cases h

theorem strD {t : TypeId} (h : undIs P t isStrD = true) : P.underlying t = some .string := by
  obtain ⟨d, h1, h2⟩ := undIs_ex h
  cases d <;> simp [isStrD] at h2; exact h1
theorem boolD {t : TypeId} (h : undIs P t isBoolD = true) : P.underlying t = some .bool := by
  obtain ⟨d, h1, h2⟩ := undIs_ex h
  cases d <;> simp [isBoolD] at h2; exact h1
theorem ptrD {t : TypeId} (h : undIs P t isPtrD = true) : ∃ e, P.underlying t = some (.pointer e) := by
  obtain ⟨d, h1, h2⟩ := undIs_ex h
  cases d <;> simp [isPtrD] at h2; exact ⟨_, h1⟩
theorem intD {t : TypeId} {k : IntKind} (h : undIs P t (isIntD k) = true) : P.underlying t = some (.int k) := by
  obtain ⟨d, h1, h2⟩ := undIs_ex h
  cases d <;> simp [isIntD] at h2; subst h2; exact h1
theorem slD {t : TypeId} {sz : Nat} (h : undIs P t (sliceD P sz) = true) : ∃ e i, P.underlying t = some (.slice e) ∧ P.info? e = some i ∧ i.size = sz := by
  obtain ⟨d, h1, h2⟩ := undIs_ex h
  cases d <;> simp [sliceD] at h2
  rename_i e
  cases hi : P.info? e with
  | none => simp [hi] at h2
  | some i => simp [hi] at h2; exact ⟨e, i, h1, hi, h2⟩
theorem ifD {t : TypeId} (h : undIs P t isIfcD = true) : ∃ e, P.underlying t = some (.interface e) := by
  obtain ⟨d, h1, h2⟩ := undIs_ex h
  cases d <;> simp [isIfcD] at h2; exact ⟨_, h1⟩
theorem slD' {t : TypeId} (h : undIs P t isSliceD = true) : ∃ e, P.underlying t = some (.slice e) := by
  obtain ⟨d, h1, h2⟩ := undIs_ex h
  cases d <;> simp [isSliceD] at h2; exact ⟨_, h1⟩
theorem varD {t : TypeId} {n : Option Nat} (h : varIs P t n = true) : ∃ i d, P.info? t = some i ∧ P.underlying t = some d ∧ n = aggN d i.size := by
  unfold varIs at h
  split at h
  · exact ⟨_, _, by assumption, by assumption, by simp only [Bool.and_eq_true, beq_iff_eq] at h; exact h.1⟩
  · cases h
theorem varNZ {t : TypeId} {n : Option Nat} (h : varIs P t n = true) : n ≠ some 0 := by
  unfold varIs at h
  split at h
  · simp only [Bool.and_eq_true, bne_iff_ne] at h; exact h.2
  · cases h
theorem fldD {t : TypeId} {fi off : Nat} {p : TypeId → Bool} (h : fieldIs P t fi off p = true) : ∃ fs f, P.underlying t = some (.struct fs) ∧ fs[fi]? = some f ∧ f.offset = off ∧ p f.type = true := by
  unfold fieldIs at h
  split at h
  · rename_i fs hu
    split at h
    · rename_i f hf
      simp at h
      exact ⟨fs, f, hu, hf, h.1, h.2⟩
    · cases h
  · cases h

theorem loadV_noClaim {n : Option Nat} {cs : List V} {r : V} (h : loadV n cs = some r) : noClaim r := by
  unfold loadV at h
  split at h
  · split at h
    · injection h with h; subst h; exact noClaim_strip _
    · cases h
  · split at h
    · injection h with h; subst h; exact noc_sound rfl
    · cases h

theorem loadB_ne {n : Option Nat} {cs : List V} {o : Nat} {r : V} (h0 : n ≠ some 0) (h : loadB n (cs.drop o) = some r) : cs ≠ [] := by
  intro hc
  subst hc
  cases n with
  | none => simp [loadB, loadV] at h
  | some k =>
    simp only [loadB, List.drop_nil, List.take_nil, List.map_nil, List.length_nil] at h
    split at h
    · rename_i hh
      exact h0 (by rw [← hh.1])
    · cases h
theorem loadB_noClaim {n : Option Nat} {cs : List V} {r : V} (h : loadB n cs = some r) : noClaim r := by
  cases n with
  | none => exact loadV_noClaim (show loadV none cs = some r from h)
  | some k =>
    simp only [loadB] at h
    split at h
    · injection h with h; subst h; exact noc_sound rfl
    · cases h

theorem eqFields_run {d : Nat} {cs ds : List Value} : ∀ (fs : List Field) (ks : List Nat) (k : Nat) (xs ys : List V) (e : Bool), okFields P k ks fs = true → RepL G.K (cs.drop k) xs → RepL G.K (ds.drop k) ys →
    cellsEq ks xs ys = some e → (Op.eqFields (d + 1) cs.toArray ds.toArray fs).run P w = .ok e w
  | [], [], k, xs, ys, e, _, h1, h2, h => by
    cases xs <;> cases ys <;> simp [cellsEq] at h
    subst h
    simp [Op.eqFields]
  | f :: fs, n :: ns, k, xs, ys, e, hk, h1, h2, h => by
    cases xs with
    | nil => simp [cellsEq] at h
    | cons x xs =>
      cases ys with
      | nil => simp [cellsEq] at h
      | cons y ys =>
        simp only [okFields, Bool.and_eq_true] at hk
        obtain ⟨⟨⟨hoff, hnm⟩, hty⟩, hrest⟩ := hk
        simp only [cellsEq] at h
        obtain ⟨b, hb, h⟩ := bind_some_iff.1 h
        obtain ⟨u, hu, hux⟩ := h1.get (i := 0) rfl
        obtain ⟨v, hv, hvy⟩ := h2.get (i := 0) rfl
        rw [List.getElem?_drop, Nat.add_zero] at hu hv
        have ht1 : RepL G.K (cs.drop (k + 1)) xs := by
          have := h1.drop 1
          simpa [List.drop_drop] using this
        have ht2 : RepL G.K (ds.drop (k + 1)) ys := by
          have := h2.drop 1
          simpa [List.drop_drop] using this
        have hoff' : f.offset = k := by simpa using hoff
        have hnm' : f.name ≠ "_" := by simpa using hnm
        have hpart : ∀ (es : List Value) (z : Value), es[k]? = some z → (∀ fs', P.underlying f.type ≠ some (.struct fs')) → (∀ n e, P.underlying f.type ≠ some (.array n e)) → (∃ dd, P.underlying f.type = some dd) → (part f.type es.toArray f.offset).run P w = .ok z w := by
          intro es z hz hns hna hd
          obtain ⟨dd, hdd⟩ := hd
          have : (isAgg f.type).run P w = .ok false w := by
            simp only [isAgg, Sem.run_bind, run_und hdd, Result.andThen_ok]
            cases dd <;> first | rfl | exact absurd hdd (hns _) | exact absurd hdd (hna _ _)
          simp [part, this, hoff', hz]
        have hone : (Op.equalIn (d + 1) f.type u v).run P w = .ok b w ∧ (∀ fs', P.underlying f.type ≠ some (.struct fs')) ∧ (∀ n e, P.underlying f.type ≠ some (.array n e)) ∧ (∃ dd, P.underlying f.type = some dd) := by
          unfold cellEq at hb
          split at hb
          · split at hb
            · rename_i hkk
              subst hkk
              injection hb with hb; subst hb
              cases hux; cases hvy
              cases hut : P.underlying f.type with
              | none => simp [hut] at hty
              | some dd =>
                cases dd <;> simp [hut] at hty
                exact ⟨run_equalIn_int w d f.type _ _ _ _ hut, by simp, by simp, ⟨_, rfl⟩⟩
            · cases hb
          · injection hb with hb; subst hb
            cases hux; cases hvy
            cases hut : P.underlying f.type with
            | none => simp [hut] at hty
            | some dd =>
              cases dd <;> simp [hut] at hty
              refine ⟨?_, by simp, by simp, ⟨_, rfl⟩⟩
              rw [run_equalIn_string w d f.type _ _ hut, toL, toL]
          · injection hb with hb; subst hb
            cases hux; cases hvy
            cases hut : P.underlying f.type with
            | none => simp [hut] at hty
            | some dd =>
              cases dd <;> simp [hut] at hty
              exact ⟨run_equalIn_bool' w d f.type _ _ hut, by simp, by simp, ⟨_, rfl⟩⟩
          · cases hb
        obtain ⟨e1, e2, e3, e4⟩ := hone
        simp only [Op.eqFields, if_pos hnm', Sem.run_bind, hpart cs u hu e2 e3 e4, hpart ds v hv e2 e3 e4, e1, Result.andThen_ok]
        cases b with
        | true =>
          simp only [cond_true] at h
          simp only [Bool.not_true, Bool.false_eq_true, if_false]
          exact eqFields_run fs ns (k + 1) xs ys e hrest ht1 ht2 h
        | false =>
          simp only [cond_false, Option.some.injEq] at h
          subst h
          simp
  | [], _ :: _, _, _, _, _, hk, _, _, _ => by simp [okFields] at hk
  | _ :: _, [], _, _, _, _, hk, _, _, _ => by simp [okFields] at hk

theorem s_seq {ks : List Nat} {neg : Bool} {t : TypeId} {fs : Array Field} {x y : Operand} {a b : Value} {xs : List V} {r : V} (h1 : P.stoodInHeld t = false) (h2 : P.eqGuardType P.depth t = false) (h3 : P.underlying t = some (.struct fs))
    (h4 : okFields P 0 ks fs.toList = true) (hs : SRepL G [a, b] xs) (h : rSeq ks neg xs = some r) :
    ∃ cv, (do eqGuard (if neg then .neq else .eql) t x y a b; binOp (if neg then .neq else .eql) t a b : Sem Value).run P w = .ok cv w ∧ SRep G cv r := by
  unfold rSeq at h
  split at h
  · cases hs with | cons ha hs => cases hs with | cons hb hs =>
    obtain ⟨cs, rfl, _, hc⟩ := ha.agg_inv
    obtain ⟨ds, rfl, _, hd⟩ := hb.agg_inv
    obtain ⟨e, he, h⟩ := Option.map_eq_some_iff.1 h
    subst h
    have hf : P.fieldsOf t = fs := by simp [Program.fieldsOf, h3]
    have key := run_equalIn_struct (P := P) w 9999 t cs.toArray ds.toArray (by rw [hf]; exact h3) h1
    rw [hf, eqFields_run (P := P) (w := w) (d := 9998) fs.toList ks 0 _ _ e h4 (by simpa using hc) (by simpa using hd) he] at key
    cases neg
    · refine ⟨.bool e, ?_, .data (by simpa using .bool _)⟩
      simp only [Bool.false_eq_true, if_false, Sem.run_bind, run_eqGuard_agg (P := P) w .eql t x y _ _ h2, Result.andThen_ok, run_eql_struct, key]
    · refine ⟨.bool (!e), ?_, .data (by simpa using .bool _)⟩
      simp only [if_true, Sem.run_bind, run_eqGuard_agg (P := P) w .neq t x y _ _ h2, Result.andThen_ok, run_neq_struct, key]
  · cases h

end ops
end Go.Proofs.YtpajgenngpjbaaaGreat.Ev

/- Each operation of the model does what the evaluator's says: the plain ones; then those that make or write memory, or call. -/
namespace Go.Proofs.YtpajgenngpjbaaaGreat.Ev
open Go

section ops
variable {P : Program} {G : Gh} {w : World} {M : Mem}

theorem vrun {s : Sem Value} {cv : Value} {w' : World} (h : s.run P w = .ok cv w') : (do pure (Next.value (← s)) : Sem Next).run P w = .ok (.value cv) w' := by
  simp [h]

theorem toList_one {α : Type} {a : Array α} {x : α} (h : a.toList = [x]) : a = #[x] := by cases a; simp at h; subst h; rfl
theorem toList_two {α : Type} {a : Array α} {x y : α} (h : a.toList = [x, y]) : a = #[x, y] := by cases a; simp at h; subst h; rfl

theorem and_l {a b : Bool} (h : (a && b) = true) : a = true := by cases a <;> simp_all
theorem and_r {a b : Bool} (h : (a && b) = true) : b = true := by cases a <;> simp_all

theorem isByteT_und {P : Program} {e : TypeId} (h : isByteT P e = true) : P.underlying e = some (.int .u8) := by
  simp only [isByteT, Bool.and_eq_true] at h
  exact intD h.1

theorem unbyte_rep {K : Know} : ∀ {xs : List V} {vs : List Value} {s : List UInt8}, RepL K vs (flat xs) → unbyte xs = some s → ∃ ns : List Int, vs = ns.map (Value.int .u8) ∧ s = ns.map (fun n => n.toNat.toUInt8) ∧ xs.length = ns.length
  | [], vs, s, h, hs => by
    simp only [unbyte, Option.some.injEq] at hs
    subst hs
    cases h
    exact ⟨[], rfl, rfl, rfl⟩
  | x :: xs, vs, s, h, hs => by
    unfold unbyte at hs
    split at hs
    · rename_i heq; cases heq
    · rename_i n r heq
      cases heq
      obtain ⟨s', h1, rfl⟩ := Option.map_eq_some_iff.1 hs
      simp only [flat, V.cells, List.singleton_append] at h
      cases h with | cons h1' h2 =>
      obtain ⟨ns, rfl, rfl, e⟩ := unbyte_rep h2 h1
      cases h1'
      exact ⟨n :: ns, rfl, rfl, by simp [e]⟩
    · cases hs

theorem foldl_push : ∀ (ns : List Int) (a : ByteArray), ns.foldl (fun r n => r.push (UInt8.ofNat n.toNat)) a = a ++ ⟨(ns.map (fun n => n.toNat.toUInt8)).toArray⟩
  | [], a => by
    apply ByteArray.ext
    simp
  | n :: ns, a => by
    rw [List.foldl_cons, foldl_push ns]
    apply ByteArray.ext
    apply Array.ext'
    simp [ByteArray.push]

theorem s_b2s {s d e : TypeId} {a : Value} {xs : List V} {r : V} (hI : Inv G w M) (hs' : P.underlying s = some (.slice e)) (he : P.underlying e = some (.int .u8)) (hd : P.underlying d = some .string) (hs : SRepL G [a] xs) (h : rB2s xs = some r) :
    ∃ cv, (convert s d a).run P w = .ok cv w ∧ SRep G cv r := by
  unfold rB2s at h
  split at h
  · rename_i ys own
    cases hs with | cons ha hs =>
    obtain ⟨bs, h1, h2⟩ := Option.map_eq_some_iff.1 h
    subst h2
    rcases ha.list_inv with ⟨rfl, base, cap, rfl, _⟩ | ⟨b', off, cap, vs, rfl, hc, hl, hok, hK, hr⟩
    · simp only [unbyte, Option.some.injEq] at h1
      subst h1
      refine ⟨.string ⟨(#[] : Array UInt8)⟩, ?_, .data (by simpa using Rep.str [])⟩
      rw [run_convert_bytes_string w s d e base 0 cap hs' he hd]
      cases base with
      | none => rfl
      | some ad =>
        rw [run_bytesToString w ad 0 cap [] (by simp [loadCells, loadCellsFrom])]
        rfl
    · obtain ⟨ns, rfl, rfl, hn⟩ := unbyte_rep hr h1
      refine ⟨_, ?_, .data (.str _)⟩
      rw [run_convert_bytes_string w s d e _ _ _ hs' he hd]
      have hload := run_loadCells (P := P) (w := w) (b := b') (o := off) (ns.map (Value.int .u8)) 0 #[] (fun i u hu => by
        have := hI.kh _ _ _ (hK i u hu)
        simpa using this)
      rw [List.length_map] at hload
      rw [run_bytesToString w _ _ _ ns (by rw [hn]; simpa [loadCells] using hload), foldl_push]
      congr 2
      all_goals first | rfl | (apply ByteArray.ext; simp)
  · cases h

def ReadsAs (G : Gh) (ρ : Operand → Value) (e : Env) : Prop := ∀ {xs : List Operand} {as : List AArg}, okArgs xs as = true → SRepL G (xs.map ρ) (as.map (readArg e))

theorem plain_sound {ρ : Operand → Value} {o : Oper} {args : List AArg} {pr : Prim} {e : Env} {r : V} (hI : Inv G w M) (hρ : ReadsAs G ρ e) (hpl : pr.plain = true) (hk : okPrim P o.op args pr = true)
    (hr : runP pr (args.map (readArg e)) = some r) : ∃ cv, (execOp ρ o).run P w = .ok (.value cv) w ∧ SRep G cv r ∧ noClaim r := by
  have fin : ∀ {s : Sem Value} (he : execOp ρ o = (do pure (Next.value (← s)) : Sem Next)) (_ : ∃ cv, s.run P w = .ok cv w ∧ SRep G cv r) (_ : noClaim r), ∃ cv, (execOp ρ o).run P w = .ok (.value cv) w ∧ SRep G cv r ∧ noClaim r := by
    intro s he ⟨cv, h1, h2⟩ h3
    exact ⟨cv, by rw [he]; exact vrun h1, h2, h3⟩
  cases pr with
  | pick =>
    simp only [okPrim] at hk
    split at hk
    · rename_i c a b hop
      obtain ⟨cv, h1, h2⟩ := s_pick (P := P) (w := w) (hρ hk) hr
      refine ⟨cv, ?_, h2, ?_⟩
      · unfold execOp; rw [hop]; exact h1
      · simp only [runP] at hr
        unfold rPick at hr
        split at hr
        · rename_i t a b _
          injection hr with hr; subst hr
          cases t <;> exact noClaim_strip _
        · cases hr
    · cases hk
  | bin bo =>
    simp only [okPrim] at hk
    split at hk
    · rename_i bo' t x y t' hop
      simp only [Bool.and_eq_true, decide_eq_true_eq] at hk
      obtain ⟨rfl, hk⟩ := hk
      refine fin (s := do eqGuard bo t x y (ρ x) (ρ y); binOp bo t (ρ x) (ρ y)) (by unfold execOp; rw [hop]) (s_bin (hρ hk) hr) ?_
      simp only [runP] at hr
      unfold rBin at hr
      split at hr
      · split at hr
        · unfold intBin at hr
          split at hr <;> first | (injection hr with hr; subst hr; exact noc_sound rfl) | (split at hr <;> first | (injection hr with hr; subst hr; exact noc_sound rfl) | cases hr) | cases hr
        · cases hr
      · unfold strBin at hr
        split at hr <;> first | (injection hr with hr; subst hr; exact noc_sound rfl) | (split at hr <;> first | (injection hr with hr; subst hr; exact noc_sound rfl) | cases hr) | cases hr
      · cases hr
    · cases hk
  | un u =>
    cases u with
    | not =>
      simp only [okPrim] at hk
      split at hk
      · rename_i t x hop
        refine fin (s := Op.unary .not (ρ x)) (by unfold execOp; rw [hop]) (s_not (hρ hk) hr) ?_
        simp only [runP] at hr
        unfold rNot at hr
        split at hr
        · injection hr with hr; subst hr; exact noc_sound rfl
        · cases hr
      · cases hk
    | neg =>
      simp only [okPrim] at hk
      split at hk
      · rename_i t x hop
        refine fin (s := Op.unary .neg (ρ x)) (by unfold execOp; rw [hop]) (s_neg (hρ hk) hr) ?_
        simp only [runP] at hr
        unfold rNeg at hr
        split at hr
        · injection hr with hr; subst hr; exact noc_sound rfl
        · cases hr
      · cases hk
    | _ => simp [okPrim] at hk
  | beq neg =>
    simp only [okPrim] at hk
    split at hk
    · rename_i bo t x y t' hop
      simp only [Bool.and_eq_true, decide_eq_true_eq] at hk
      obtain ⟨⟨rfl, hu⟩, hk⟩ := hk
      refine fin (s := do eqGuard (if neg then .neq else .eql) t x y (ρ x) (ρ y); binOp (if neg then .neq else .eql) t (ρ x) (ρ y)) (by unfold execOp; rw [hop]) (s_beq (boolD hu) (hρ hk) hr) ?_
      simp only [runP] at hr
      unfold rBeq at hr
      split at hr
      · injection hr with hr; subst hr; exact noc_sound rfl
      · cases hr
    · cases hk
  | seq ks neg =>
    simp only [okPrim] at hk
    split at hk
    · rename_i bo t x y t' hop
      simp only [Bool.and_eq_true, decide_eq_true_eq, Bool.not_eq_true'] at hk
      obtain ⟨⟨⟨⟨rfl, h1⟩, h2⟩, hk⟩, h3⟩ := hk
      split at h3
      · rename_i fs hfs
        refine fin (s := do eqGuard (if neg then .neq else .eql) t x y (ρ x) (ρ y); binOp (if neg then .neq else .eql) t (ρ x) (ρ y)) (by unfold execOp; rw [hop]) (s_seq h1 h2 hfs h3 (hρ hk) hr) ?_
        simp only [runP] at hr
        unfold rSeq at hr
        split at hr
        · obtain ⟨e', _, hr⟩ := Option.map_eq_some_iff.1 hr
          subst hr; exact noc_sound rfl
        · cases hr
      · cases h3
    · cases hk
  | isnil neg =>
    simp only [okPrim] at hk
    split at hk
    · rename_i bo t x t' hop
      simp only [Bool.and_eq_true, decide_eq_true_eq] at hk
      obtain ⟨⟨rfl, hu⟩, hk⟩ := hk
      obtain ⟨e', hu⟩ := ptrD hu
      by_cases hc : ρ (.const (.pointer none)) = .pointer none
      · refine fin (s := do eqGuard (if neg then .neq else .eql) t x (.const (.pointer none)) (ρ x) (ρ (.const (.pointer none))); binOp (if neg then .neq else .eql) t (ρ x) (ρ (.const (.pointer none)))) (by unfold execOp; rw [hop]) (by rw [hc]; exact s_isnil hu (hρ hk) hr) ?_
        simp only [runP] at hr
        unfold rIsnil at hr
        split at hr <;> first | (injection hr with hr; subst hr; exact noc_sound rfl) | cases hr
      · have := hρ (xs := [.const (.pointer none)]) (as := [.c .nilp]) rfl
        obtain ⟨x', hx', _, hh, hs⟩ := SRepL.one' this
        simp only [List.map_cons, List.map_nil, List.cons.injEq, and_true] at hx' hh
        subst hh
        rw [← hx'] at hc
        exact absurd hs.nilp_inv hc
    · cases hk
  | isnils neg =>
    simp only [okPrim] at hk
    split at hk
    · rename_i bo t x t' hop
      simp only [Bool.and_eq_true, decide_eq_true_eq] at hk
      obtain ⟨⟨rfl, hu⟩, hk⟩ := hk
      obtain ⟨e', hu⟩ := slD' hu
      have hc : ρ (.const (.slice none 0 0)) = .slice none 0 0 := by
        have := hρ (xs := [.const (.slice none 0 0)]) (as := [.c (.nils 0)]) rfl
        obtain ⟨x', hx', _, hh, hs⟩ := SRepL.one' this
        simp only [List.map_cons, List.map_nil, List.cons.injEq, and_true] at hx' hh
        subst hh
        rw [← hx']
        cases hs with | data r => cases r; rfl
      refine fin (s := do eqGuard (if neg then .neq else .eql) t x (.const (.slice none 0 0)) (ρ x) (ρ (.const (.slice none 0 0))); binOp (if neg then .neq else .eql) t (ρ x) (ρ (.const (.slice none 0 0)))) (by unfold execOp; rw [hop]) (by rw [hc]; exact s_isnils hu (hρ hk) hr) ?_
      simp only [runP] at hr
      unfold rIsnils at hr
      split at hr <;> first | (injection hr with hr; subst hr; exact noc_sound rfl) | cases hr
    · cases hk
  | isifc neg =>
    simp only [okPrim] at hk
    split at hk
    · rename_i bo t x t' hop
      simp only [Bool.and_eq_true, decide_eq_true_eq] at hk
      obtain ⟨⟨rfl, hu⟩, hk⟩ := hk
      obtain ⟨e', hu⟩ := ifD hu
      have hc : ρ (.const .nilIface) = .nilIface := by
        have := hρ (xs := [.const .nilIface]) (as := [.c (.ifc true)]) rfl
        obtain ⟨x', hx', _, hh, hs⟩ := SRepL.one' this
        simp only [List.map_cons, List.map_nil, List.cons.injEq, and_true] at hx' hh
        subst hh
        rw [← hx']
        cases hs with | data r => cases r; rfl
      refine fin (s := do eqGuard (if neg then .neq else .eql) t x (.const .nilIface) (ρ x) (ρ (.const .nilIface)); binOp (if neg then .neq else .eql) t (ρ x) (ρ (.const .nilIface))) (by unfold execOp; rw [hop]) (by rw [hc]; exact s_isifc hu (hρ hk) hr) ?_
      simp only [runP] at hr
      unfold rIsifc at hr
      split at hr <;> first | (injection hr with hr; subst hr; exact noc_sound rfl) | cases hr
    · cases hk
  | sidx =>
    simp only [okPrim] at hk
    split at hk
    · rename_i t x i hop
      simp only [Bool.and_eq_true] at hk
      refine fin (s := Instr.index t (ρ x) (ρ i)) (by unfold execOp; rw [hop]) (s_sidx (strD hk.1) (hρ hk.2) hr) ?_
      simp only [runP] at hr
      unfold rSidx at hr
      split at hr
      · split at hr
        · obtain ⟨e', _, hr⟩ := Option.map_eq_some_iff.1 hr
          subst hr; exact noc_sound rfl
        · cases hr
      · cases hr
    · cases hk
  | aidx n sz ag =>
    simp only [okPrim] at hk
    split at hk
    · rename_i t x i hop
      simp only [Bool.and_eq_true] at hk
      obtain ⟨hk, h1⟩ := hk
      split at h1
      · rename_i n' e' hu
        simp only [Bool.and_eq_true, beq_iff_eq] at h1
        obtain ⟨rfl, h1⟩ := h1
        split at h1
        · rename_i j d hj hd
          simp only [Bool.and_eq_true, beq_iff_eq, Bool.or_eq_true] at h1
          obtain ⟨⟨h2, h3⟩, h4⟩ := h1
          refine fin (s := Instr.index t (ρ x) (ρ i)) (by unfold execOp; rw [hop]) (s_aidx hu hj h2 hd h3 (fun h => by rw [h] at h4; simpa using h4) (hρ hk) hr) ?_
          simp only [runP] at hr
          unfold rAidx at hr
          split at hr
          · split at hr
            · split at hr
              · injection hr with hr; subst hr; exact noc_sound rfl
              · obtain ⟨e', _, hr⟩ := Option.map_eq_some_iff.1 hr
                subst hr; exact noClaim_strip _
            · cases hr
          · cases hr
        · cases h1
      · cases h1
    · cases hk
  | shf bo =>
    simp only [okPrim] at hk
    split at hk
    · rename_i bo' t x y t' hop
      simp only [Bool.and_eq_true, decide_eq_true_eq] at hk
      obtain ⟨rfl, hk⟩ := hk
      refine fin (s := do eqGuard bo t x y (ρ x) (ρ y); binOp bo t (ρ x) (ρ y)) (by unfold execOp; rw [hop]) (s_shf (hρ hk) hr) ?_
      simp only [runP] at hr
      unfold rShf at hr
      split at hr
      · split at hr
        · cases hr
        · split at hr <;> first | (injection hr with hr; subst hr; exact noc_sound rfl) | cases hr
      · cases hr
    · cases hk
  | iaddr sz =>
    simp only [okPrim] at hk
    split at hk
    · rename_i t x i hop
      simp only [Bool.and_eq_true] at hk
      obtain ⟨e', j, h1, h2, h3⟩ := slD hk.1
      refine fin (s := Instr.indexAt t (ρ x) (ρ i)) (by unfold execOp; rw [hop]) (s_iaddr h1 h2 h3 (hρ hk.2) hr) ?_
      simp only [runP] at hr
      unfold rIaddr at hr
      split at hr
      · split at hr
        · obtain ⟨e', _, hr⟩ := Option.map_eq_some_iff.1 hr
          subst hr; exact noc_sound rfl
        · cases hr
      · split at hr
        · injection hr with hr; subst hr; exact noc_sound rfl
        · cases hr
      · cases hr
    · cases hk
  | iaddra n sz =>
    simp only [okPrim] at hk
    split at hk
    · rename_i t x i hop
      simp only [Bool.and_eq_true] at hk
      obtain ⟨hk1, hk2⟩ := hk
      split at hk2
      · rename_i n' e h1
        simp only [Bool.and_eq_true, beq_iff_eq] at hk2
        obtain ⟨rfl, hk2⟩ := hk2
        split at hk2
        · rename_i j h2
          refine fin (s := Instr.indexAt t (ρ x) (ρ i)) (by unfold execOp; rw [hop]) (s_iaddra h1 h2 (by simpa using hk2) (hρ hk1) hr) ?_
          simp only [runP] at hr
          unfold rIaddra at hr
          split at hr
          · split at hr
            · injection hr with hr; subst hr; exact noc_sound rfl
            · cases hr
          · split at hr
            · injection hr with hr; subst hr; exact noc_sound rfl
            · cases hr
          · cases hr
        · cases hk2
      · cases hk2
    · cases hk
  | asl n sz =>
    simp only [okPrim] at hk
    split at hk
    · rename_i t x hop
      simp only [Bool.and_eq_true] at hk
      obtain ⟨hk1, hk2⟩ := hk
      split at hk2
      · rename_i n' e h1
        simp only [Bool.and_eq_true, beq_iff_eq] at hk2
        obtain ⟨rfl, hk2⟩ := hk2
        split at hk2
        · rename_i j h2
          refine fin (s := Instr.sliceAt t (ρ x) none none none) (by unfold execOp; rw [hop]; rfl) (s_asl h1 h2 (by simpa using hk2) (hρ hk1) hr) ?_
          simp only [runP] at hr
          unfold rAsl at hr
          split at hr
          · split at hr
            · injection hr with hr; subst hr; exact noc_sound rfl
            · cases hr
          · cases hr
        · cases hk2
      · cases hk2
    · cases hk
  | faddr off =>
    simp only [okPrim] at hk
    split at hk
    · rename_i t x fi hop
      simp only [Bool.and_eq_true] at hk
      obtain ⟨fs, f, h1, h2, h3, h4⟩ := fldD hk.1
      unfold sizeNe0 at h4
      split at h4
      · rename_i j hj
        refine fin (s := Instr.fieldAt t (ρ x) fi) (by unfold execOp; rw [hop]) (s_faddr h1 h2 h3 hj (by simpa using h4) (hρ hk.2) hr) ?_
        simp only [runP] at hr
        unfold rFaddr at hr
        split at hr <;> first | (injection hr with hr; subst hr; exact noc_sound rfl) | cases hr
      · cases h4
    · cases hk
  | load n =>
    simp only [okPrim] at hk
    split at hk
    · rename_i t x hop
      simp only [Bool.and_eq_true] at hk
      obtain ⟨j, d, h1, h2, h3⟩ := varD hk.1
      refine fin (s := Instr.loadAt t (ρ x)) (by unfold execOp; rw [hop]) (s_load hI h1 h2 h3 (hρ hk.2) hr) ?_
      simp only [runP] at hr
      unfold rLoad at hr
      split at hr
      · exact loadV_noClaim hr
      · cases hr
    · cases hk
  | loadc n =>
    simp only [okPrim] at hk
    split at hk
    · rename_i t x hop
      simp only [Bool.and_eq_true] at hk
      obtain ⟨j, d, h1, h2, h3⟩ := varD hk.1
      refine fin (s := Instr.loadAt t (ρ x)) (by unfold execOp; rw [hop]) (s_load hI h1 h2 h3 (hρ hk.2) hr) ?_
      simp only [runP] at hr
      unfold rLoad at hr
      split at hr
      · exact loadV_noClaim hr
      · cases hr
    · cases hk
  | ssl lo hi =>
    simp only [okPrim] at hk
    split at hk
    · rename_i t x l h hop
      simp only [Bool.and_eq_true, beq_iff_eq] at hk
      obtain ⟨⟨⟨h1, h2⟩, h3⟩, hk⟩ := hk
      have ha := hρ hk
      refine fin (s := Instr.sliceAt t (ρ x) (l.map ρ) (h.map ρ) none) (by unfold execOp; rw [hop]; rfl) (s_ssl (strD h3) (by simpa using h1) (by simpa using h2) (by cases l <;> cases h <;> simpa using ha) hr) ?_
      simp only [runP] at hr
      unfold rSsl at hr
      split at hr
      · obtain ⟨e', _, hr⟩ := Option.map_eq_some_iff.1 hr
        subst hr; exact noc_sound rfl
      · cases hr
    · cases hk
  | lsl sz lo hi mx =>
    cases mx with
    | true => simp [Prim.plain] at hpl
    | false =>
    replace hr : rLsl sz lo hi false (args.map (readArg e)) = some r := hr
    simp only [okPrim] at hk
    split at hk
    · rename_i t x l h hop
      simp only [Bool.and_eq_true, beq_iff_eq] at hk
      obtain ⟨⟨⟨h1, h2⟩, h3⟩, hk⟩ := hk
      have ha := hρ hk
      obtain ⟨e', j, h4, h5, h6⟩ := slD h3
      refine fin (s := Instr.sliceAt t (ρ x) (l.map ρ) (h.map ρ) none) (by unfold execOp; rw [hop]; rfl) (s_lsl h4 h5 h6 (by simpa using h1) (by simpa using h2) (by cases l <;> cases h <;> simpa using ha) hr) ?_
      unfold rLsl at hr
      split at hr
      · split at hr
        · obtain ⟨e', _, hr⟩ := Option.map_eq_some_iff.1 hr
          subst hr; exact noc_sound rfl
        · cases hr
      · split at hr
        · obtain ⟨e', _, hr⟩ := Option.map_eq_some_iff.1 hr
          subst hr; exact noc_sound rfl
        · cases hr
      · cases hr
    · cases hk
  | slen =>
    simp only [okPrim] at hk
    split at hk
    · rename_i c hop
      split at hk
      · rename_i x t h1 h2 h3
        simp only [Bool.and_eq_true] at hk
        refine fin (s := Builtin.len_ #[t] o.type #[ρ x]) ?_ (s_slen (strD hk.1) (hρ hk.2) hr) ?_
        · unfold execOp; rw [hop]
          simp [resolve, h1, toList_one h2, toList_one h3, invoke, builtin]
        · simp only [runP] at hr
          unfold rSlen at hr
          split at hr <;> first | (injection hr with hr; subst hr; exact noc_sound rfl) | cases hr
      · cases hk
    · cases hk
  | llen =>
    simp only [okPrim] at hk
    split at hk
    · rename_i c hop
      split at hk
      · rename_i x t h1 h2 h3
        simp only [Bool.and_eq_true] at hk
        obtain ⟨e', hu⟩ := slD' hk.1
        refine fin (s := Builtin.len_ #[t] o.type #[ρ x]) ?_ (s_llen hu (hρ hk.2) hr) ?_
        · unfold execOp; rw [hop]
          simp [resolve, h1, toList_one h2, toList_one h3, invoke, builtin]
        · simp only [runP] at hr
          unfold rLlen at hr
          split at hr <;> first | (injection hr with hr; subst hr; exact noc_sound rfl) | cases hr
      · cases hk
    · cases hk
  | ext i =>
    simp only [okPrim] at hk
    split at hk
    · rename_i x i' hop
      simp only [Bool.and_eq_true, decide_eq_true_eq] at hk
      obtain ⟨rfl, hk⟩ := hk
      refine fin (s := Instr.extract (ρ x) i) (by unfold execOp; rw [hop]) (s_ext (hρ hk) hr) ?_
      simp only [runP] at hr
      unfold rExt at hr
      split at hr
      · obtain ⟨e', _, hr⟩ := Option.map_eq_some_iff.1 hr
        subst hr; exact noClaim_strip _
      · cases hr
    · cases hk
  | fld off n =>
    simp only [okPrim] at hk
    split at hk
    · rename_i t x fi hop
      simp only [Bool.and_eq_true] at hk
      obtain ⟨fs, f, h1, h2, h3, h4⟩ := fldD hk.1
      obtain ⟨j, d, h5, h6, h7⟩ := varD h4
      refine fin (s := Instr.field t (ρ x) fi) (by unfold execOp; rw [hop]) (s_fld h1 h2 rfl h3 h5 h6 h7 (hρ hk.2) hr) ?_
      simp only [runP] at hr
      unfold rFld at hr
      split at hr
      · exact loadV_noClaim hr
      · cases hr
    · cases hk
  | build zero ps =>
    simp only [okPrim] at hk
    split at hk
    · rename_i t parts hop
      simp only [Bool.and_eq_true] at hk
      obtain ⟨⟨h1, h2⟩, hk⟩ := hk
      unfold zeroIs at h1
      split at h1
      · rename_i it hit
        split at h1
        · rename_i z hz
          unfold okPlaces at h2
          split at h2
          · rename_i place hpl
            have ha := hρ hk
            refine fin (s := Instr.build t (parts.map fun (i, x) => (i, ρ x))) (by unfold execOp; rw [hop]) (s_build hit hz h1 hpl ?_ ?_ hr) ?_
            · have : parts.toList.map (fun p => place p.1) = ps.map some := by
                have h2' := eq_of_beq h2
                rw [List.map_map] at h2'
                exact h2'
              rw [Array.toList_map, List.map_map, ← this]; rfl
            · rw [Array.toList_map, List.map_map]
              rw [List.map_map] at ha
              exact ha
            · simp only [runP] at hr
              unfold rBuild at hr
              split at hr
              · obtain ⟨e', _, hr⟩ := Option.map_eq_some_iff.1 hr
                subst hr; exact noc_sound rfl
              · cases hr
          · cases h2
        · cases h1
      · cases h1
    · cases hk
  | builds zero ps =>
    simp only [okPrim] at hk
    split at hk
    · rename_i t parts hop
      simp only [Bool.and_eq_true] at hk
      obtain ⟨⟨h1, h2⟩, hk⟩ := hk
      unfold zeroIs at h1
      split at h1
      · rename_i it hit
        split at h1
        · rename_i z hz
          unfold okPlaces at h2
          split at h2
          · rename_i place hpl
            have ha := hρ hk
            refine fin (s := Instr.build t (parts.map fun (i, x) => (i, ρ x))) (by unfold execOp; rw [hop]) (s_builds hit hz h1 hpl ?_ ?_ hr) ?_
            · have : parts.toList.map (fun p => place p.1) = ps.map some := by
                have h2' := eq_of_beq h2
                rw [List.map_map] at h2'
                exact h2'
              rw [Array.toList_map, List.map_map, ← this]; rfl
            · rw [Array.toList_map, List.map_map]
              rw [List.map_map] at ha
              exact ha
            · simp only [runP] at hr
              unfold rBuilds at hr
              split at hr
              · obtain ⟨e', _, hr⟩ := Option.map_eq_some_iff.1 hr
                subst hr; exact noc_sound rfl
              · cases hr
          · cases h2
        · cases h1
      · cases h1
    · cases hk
  | i2s =>
    simp only [okPrim] at hk
    split at hk
    · rename_i t t' x hop
      simp only [Bool.and_eq_true] at hk
      refine fin (s := convert t t' (ρ x)) (by unfold execOp; rw [hop]) (s_i2s hk.1.1 (strD hk.1.2) (hρ hk.2) hr) ?_
      simp only [runP] at hr
      unfold rI2s at hr
      split at hr <;> first | (injection hr with hr; subst hr; exact noc_sound rfl) | cases hr
    · cases hk
  | convi k =>
    simp only [okPrim] at hk
    split at hk
    · rename_i t t' x hop
      simp only [Bool.and_eq_true] at hk
      obtain ⟨ds, h1, _⟩ := undIs_ex hk.1.1
      refine fin (s := convert t t' (ρ x)) (by unfold execOp; rw [hop]) (s_convi h1 (intD hk.1.2) (hρ hk.2) hr) ?_
      simp only [runP] at hr
      unfold rConvi at hr
      split at hr <;> first | (injection hr with hr; subst hr; exact noc_sound rfl) | cases hr
    · cases hk
  | b2s =>
    simp only [okPrim] at hk
    split at hk
    · rename_i t d x hop
      simp only [Bool.and_eq_true] at hk
      obtain ⟨⟨h1, h2⟩, hk⟩ := hk
      split at h2
      · rename_i e' hu
        refine fin (s := convert t d (ρ x)) (by unfold execOp; rw [hop]) (s_b2s hI hu (isByteT_und h2) (strD h1) (hρ hk) hr) ?_
        simp only [runP] at hr
        unfold rB2s at hr
        split at hr
        · obtain ⟨e', _, hr⟩ := Option.map_eq_some_iff.1 hr
          subst hr; exact noc_sound rfl
        · cases hr
      · cases h2
    · cases hk
  | mkf fn nf =>
    simp only [okPrim] at hk
    split at hk
    · rename_i fn' f c hop
      simp only [Bool.and_eq_true, decide_eq_true_eq, beq_iff_eq] at hk
      obtain ⟨⟨rfl, h1⟩, hk⟩ := hk
      have ha := hρ hk
      refine fin (s := Instr.makeFunc fn (f.map ρ) (c.map ρ)) (by unfold execOp; rw [hop]) (s_mkf (by simpa using h1) (by simpa using ha) hr) ?_
      simp only [runP, rMkf, Option.some.injEq] at hr
      subst hr; exact noc_sound rfl
    · cases hk
  | nilchk =>
    simp only [okPrim] at hk
    split at hk
    · rename_i x hop
      have ha := hρ hk
      simp only [runP] at hr
      unfold rNilchk at hr
      split at hr
      · rename_i cs he
        rw [he] at ha
        obtain ⟨v, hv, hs⟩ := SRepL.one ha
        simp at hv
        obtain ⟨b, o', vs, hvv, _⟩ := hs.cptr_inv
        injection hr with hr; subst hr
        refine ⟨v, ?_, hs, noc_sound rfl⟩
        unfold execOp; rw [hop]
        simp only [hv, hvv]; rfl
      · rename_i l t o' he
        rw [he] at ha
        obtain ⟨v, hv, hs⟩ := SRepL.one ha
        simp at hv
        obtain ⟨b, _, hvv⟩ := hs.ptr_inv
        injection hr with hr; subst hr
        refine ⟨v, ?_, hs, noc_sound rfl⟩
        unfold execOp; rw [hop]
        simp only [hv, hvv]; rfl
      · cases hr
    · cases hk
  | _ => simp [Prim.plain] at hpl

end ops
end Go.Proofs.YtpajgenngpjbaaaGreat.Ev
