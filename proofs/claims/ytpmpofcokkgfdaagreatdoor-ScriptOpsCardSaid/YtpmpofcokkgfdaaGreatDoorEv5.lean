/- Building structs and slice literals; slices of slices; closures. -/
import Derived.Test.YtpmpofcokkgfdaaGreatDoorEv4
import Derived.Great.BuildSlice
namespace Go.Proofs.YtpmpofcokkgfdaaGreatDoor.Ev
open Go

theorem foldl_set (off : Nat) : ∀ (l : List Value) (k : Nat) (cells : Array Value), off + k + l.length ≤ cells.size →
    ((l.zipIdx k).foldl (fun cs (p : Value × Nat) => cs.setIfInBounds (off + p.2) p.1) cells).toList = cells.toList.take (off + k) ++ l ++ cells.toList.drop (off + k + l.length)
  | [], k, cells, _ => by simp
  | v :: l, k, cells, h => by
    simp only [List.length_cons] at h
    have ih := foldl_set off l (k + 1) (cells.setIfInBounds (off + k) v) (by simp; omega)
    simp only [List.zipIdx_cons, List.foldl_cons, ih]
    have hlt : off + k < cells.toList.length := by simp; omega
    simp only [Array.toList_setIfInBounds]
    rw [List.set_eq_take_append_cons_drop, if_pos hlt]
    have hl : (cells.toList.take (off + k)).length = off + k := by rw [List.length_take]; omega
    have e1 : (cells.toList.take (off + k) ++ v :: cells.toList.drop (off + k + 1)).take (off + (k + 1)) = cells.toList.take (off + k) ++ [v] := by
      rw [List.take_append, hl]
      rw [List.take_of_length_le (by omega)]
      rw [show off + (k + 1) - (off + k) = 1 by omega]
      rfl
    have e2 : (cells.toList.take (off + k) ++ v :: cells.toList.drop (off + k + 1)).drop (off + (k + 1) + l.length) = cells.toList.drop (off + k + (l.length + 1)) := by
      rw [List.drop_append, hl]
      rw [List.drop_of_length_le (by omega), List.nil_append]
      rw [show off + (k + 1) + l.length - (off + k) = l.length + 1 by omega, List.drop_succ_cons, List.drop_drop]
      congr 1
      omega
    rw [e1, e2]
    simp

theorem oneCell_cells {v : Value} (h : v.oneCell' = true) : v.cells = #[v] := by
  cases v <;> simp [Value.oneCell', Value.cells] at h ⊢

/-- A V that may stand in a cell stands for a value of one cell. -/
theorem okc_one {K : Know} {v : Value} {x : V} (h : Rep K v x) (hx : okc x = true) : v.oneCell' = true := by
  cases h <;> first | rfl | (simp [okc, V.isOneCell] at hx)

theorem RepL.one {K : Know} : ∀ {vs : List Value} {xs : List V}, RepL K vs xs → (∀ c ∈ xs, okc c = true) → ∀ u ∈ vs, u.oneCell' = true
  | _, _, .nil, _, u, hu => by cases hu
  | _, _, .cons r rs, h, u, hu => by
    rcases List.mem_cons.1 hu with rfl | hu
    · exact okc_one r (h _ (by simp))
    · exact RepL.one rs (fun c hc => h c (by simp [hc])) u hu

theorem okc_local {x : V} (h : okc x = true) : isLocal x = false := by
  simp only [okc, Bool.and_eq_true, Bool.not_eq_true'] at h
  exact h.1.2
theorem okc_own {x : V} (h : okc x = true) : ∀ sz xs, x ≠ .list sz xs true := by
  rintro sz xs rfl
  simp [okc, V.isOwn] at h
theorem okc_cells {x : V} (h : okc x = true) : x.cells = [x] := by
  cases x <;> first | rfl | (simp [okc, V.isOneCell] at h)

theorem data_one {G : Gh} {v : Value} {x : V} (h : SRep G v x) (hx : okc x = true) : RepL G.K v.cells.toList x.cells ∧ (∀ c ∈ x.cells, okc c = true) := by
  have hr := h.toRep (okc_local hx)
  rw [oneCell_cells (okc_one hr hx), okc_cells hx]
  exact ⟨.cons hr .nil, by simpa using hx⟩

theorem data_rep {G : Gh} {v : Value} {x : V} (h : SRep G v x) (hx : data x = true) : RepL G.K v.cells.toList x.cells ∧ (∀ c ∈ x.cells, okc c = true) := by
  cases x with
  | agg cs =>
    obtain ⟨vs, rfl, hok, hr⟩ := h.agg_inv
    exact ⟨by simpa [Value.cells, V.cells] using hr, by simpa [V.cells] using hok⟩
  | _ => exact data_one h hx

theorem splice_rep {K : Know} {vs ws : List Value} {xs ys : List V} (h : RepL K vs xs) (h' : RepL K ws ys) (off : Nat) :
    RepL K (vs.take off ++ ws ++ vs.drop (off + ws.length)) (spliceAt off ys xs) := by
  unfold spliceAt
  rw [h'.length]
  exact ((h.take off).append h').append (h.drop _)

theorem splice_okc {off : Nat} {ys xs : List V} (h : ∀ c ∈ xs, okc c = true) (h' : ∀ c ∈ ys, okc c = true) : ∀ c ∈ spliceAt off ys xs, okc c = true := by
  intro c hc
  simp only [spliceAt, List.mem_append] at hc
  rcases hc with (hc | hc) | hc
  · exact h c (List.mem_of_mem_take hc)
  · exact h' c hc
  · exact h c (List.mem_of_mem_drop hc)

theorem fill_rep {G : Gh} (place : Nat → Option (Nat × Nat)) : ∀ (parts : List (Nat × Value)) (ps : List (Nat × Nat)) (xs : List V) (cells : Array Value) (cs cs' : List V),
    parts.map (fun p => place p.1) = ps.map some → SRepL G (parts.map Prod.snd) xs → xs.all data = true → RepL G.K cells.toList cs → (∀ c ∈ cs, okc c = true) → fillV ps xs cs = some cs' →
    ∃ cells' : Array Value, Instr.fill place cells parts = some cells' ∧ RepL G.K cells'.toList cs' ∧ (∀ c ∈ cs', okc c = true) ∧ cs'.length = cs.length
  | [], [], [], cells, cs, cs', _, _, _, hc, hok, h => by
    simp only [fillV, Option.some.injEq] at h
    subst h
    exact ⟨cells, rfl, hc, hok, rfl⟩
  | (i, v) :: parts, (off, size) :: ps, x :: xs, cells, cs, cs', hp, hs, hd, hc, hok, h => by
    simp only [List.map_cons, List.cons.injEq] at hp
    simp only [List.all_cons, Bool.and_eq_true] at hd
    unfold fillV at h
    split at h
    · rename_i hh
      obtain ⟨h1, h2⟩ := hh
      cases hs with | cons hv hs =>
      obtain ⟨hr, hk⟩ := data_rep hv hd.1
      have hlen := hr.length
      have hcl := hc.length
      simp only [Array.length_toList] at hlen hcl
      have hset := foldl_set off v.cells.toList 0 cells (by simp; omega)
      simp only [Nat.add_zero] at hset
      have hnew : RepL G.K ((v.cells.toList.zipIdx 0).foldl (fun cs (p : Value × Nat) => cs.setIfInBounds (off + p.2) p.1) cells).toList (spliceAt off x.cells cs) := by
        rw [hset]; exact splice_rep hc hr off
      have hsl : (spliceAt off x.cells cs).length = cs.length := by
        simp only [spliceAt, List.length_append, List.length_take, List.length_drop]; omega
      obtain ⟨cells', h3, h4, h5, h6⟩ := fill_rep place parts ps xs _ _ cs' hp.2 hs hd.2 hnew (splice_okc hok hk) h
      refine ⟨cells', ?_, h4, h5, by omega⟩
      unfold Instr.fill
      simp only [hp.1]
      rw [if_neg (by simp; omega), ← h3]
      congr 1
      rw [← Array.foldl_toList]
      simp
    · cases h
  | [], _ :: _, _, _, _, _, hp, _, _, _, _, _ => by simp at hp
  | _ :: _, [], _, _, _, _, hp, _, _, _, _, _ => by simp at hp
  | [], [], _ :: _, _, _, _, _, hs, _, _, _, _ => by cases hs
  | (_, _) :: _, _ :: _, [], _, _, _, _, hs, _, _, _, _ => by cases hs

theorem one_of {v : Value} {c : V} {G : Gh} (hs : SRep G v c) (h : c.isOneCell = true) : v.oneCell' = true := by
  cases hs with
  | data r => cases r <;> first | rfl | (simp [V.isOneCell] at h)
  | ptr => rfl
  | func => rfl
  | slc => rfl
  | mref => rfl
  | iref => rfl
  | tup => simp [V.isOneCell] at h
  | fptr => rfl
  | sagg => simp [V.isOneCell] at h

theorem okc_sCell {c : V} (h : okc c = true) : sCell c = true := by
  simp only [okc, Bool.and_eq_true, Bool.not_eq_true'] at h
  simp only [sCell, Bool.and_eq_true, Bool.not_eq_true']
  exact ⟨h.1.1, h.2⟩

theorem one_cells {x : V} (h : x.isOneCell = true) : x.cells = [x] := by
  cases x <;> first | rfl | (simp [V.isOneCell] at h)

theorem part_rep {G : Gh} {v : Value} {x : V} (h : SRep G v x) (hx : partOk x = true) : SRepL G v.cells.toList x.cells ∧ (∀ c ∈ x.cells, sCell c = true) := by
  have one : sCell x = true → SRepL G v.cells.toList x.cells ∧ (∀ c ∈ x.cells, sCell c = true) := by
    intro hs
    have h1 : x.isOneCell = true := by simp only [sCell, Bool.and_eq_true] at hs; exact hs.1
    rw [oneCell_cells (one_of h h1), one_cells h1]
    exact ⟨.cons h .nil, by simpa using hs⟩
  cases x with
  | agg cs =>
    obtain ⟨vs, rfl, hok, hr⟩ := h.agg_inv
    exact ⟨by simpa [Value.cells, V.cells] using hr.toS, fun c hc => okc_sCell (hok c (by simpa [V.cells] using hc))⟩
  | sagg cs =>
    obtain ⟨vs, rfl, hok, hr⟩ := h.sagg_inv
    exact ⟨by simpa [Value.cells, V.cells] using hr, by simpa [V.cells] using hok⟩
  | _ => exact one hx

theorem splice_srep {G : Gh} {vs ws : List Value} {xs ys : List V} (h : SRepL G vs xs) (h' : SRepL G ws ys) (off : Nat) :
    SRepL G (vs.take off ++ ws ++ vs.drop (off + ws.length)) (spliceAt off ys xs) := by
  unfold spliceAt
  rw [h'.length]
  exact ((h.take off).append h').append (h.drop _)

theorem splice_mem {off : Nat} {ys xs : List V} {p : V → Bool} (h : ∀ c ∈ xs, p c = true) (h' : ∀ c ∈ ys, p c = true) : ∀ c ∈ spliceAt off ys xs, p c = true := by
  intro c hc
  simp only [spliceAt, List.mem_append] at hc
  rcases hc with (hc | hc) | hc
  · exact h c (List.mem_of_mem_take hc)
  · exact h' c hc
  · exact h c (List.mem_of_mem_drop hc)

theorem fill_srep {G : Gh} (place : Nat → Option (Nat × Nat)) : ∀ (parts : List (Nat × Value)) (ps : List (Nat × Nat)) (xs : List V) (cells : Array Value) (cs cs' : List V),
    parts.map (fun p => place p.1) = ps.map some → SRepL G (parts.map Prod.snd) xs → xs.all partOk = true → SRepL G cells.toList cs → (∀ c ∈ cs, sCell c = true) → fillV ps xs cs = some cs' →
    ∃ cells' : Array Value, Instr.fill place cells parts = some cells' ∧ SRepL G cells'.toList cs' ∧ (∀ c ∈ cs', sCell c = true) ∧ cs'.length = cs.length
  | [], [], [], cells, cs, cs', _, _, _, hc, hok, h => by
    simp only [fillV, Option.some.injEq] at h
    subst h
    exact ⟨cells, rfl, hc, hok, rfl⟩
  | (i, v) :: parts, (off, size) :: ps, x :: xs, cells, cs, cs', hp, hs, hd, hc, hok, h => by
    simp only [List.map_cons, List.cons.injEq] at hp
    simp only [List.all_cons, Bool.and_eq_true] at hd
    unfold fillV at h
    split at h
    · rename_i hh
      obtain ⟨h1, h2⟩ := hh
      cases hs with | cons hv hs =>
      obtain ⟨hr, hk⟩ := part_rep hv hd.1
      have hlen := hr.length
      have hcl := hc.length
      simp only [Array.length_toList] at hlen hcl
      have hset := foldl_set off v.cells.toList 0 cells (by simp; omega)
      simp only [Nat.add_zero] at hset
      have hnew : SRepL G ((v.cells.toList.zipIdx 0).foldl (fun cs (p : Value × Nat) => cs.setIfInBounds (off + p.2) p.1) cells).toList (spliceAt off x.cells cs) := by
        rw [hset]; exact splice_srep hc hr off
      have hsl : (spliceAt off x.cells cs).length = cs.length := by
        simp only [spliceAt, List.length_append, List.length_take, List.length_drop]; omega
      obtain ⟨cells', h3, h4, h5, h6⟩ := fill_srep place parts ps xs _ _ cs' hp.2 hs hd.2 hnew (splice_mem hok hk) h
      refine ⟨cells', ?_, h4, h5, by omega⟩
      unfold Instr.fill
      simp only [hp.1]
      rw [if_neg (by simp; omega), ← h3]
      congr 1
      rw [← Array.foldl_toList]
      simp
    · cases h
  | [], _ :: _, _, _, _, _, hp, _, _, _, _, _ => by simp at hp
  | _ :: _, [], _, _, _, _, hp, _, _, _, _, _ => by simp at hp
  | [], [], _ :: _, _, _, _, _, hs, _, _, _, _ => by cases hs
  | (_, _) :: _, _ :: _, [], _, _, _, _, hs, _, _, _, _ => by cases hs

section ops
variable {P : Program} {G : Gh} {w : World}

/-- Where the parts of a composite literal lie. -/
def placesOf (P : Program) (t : TypeId) : Option (Nat → Option (Nat × Nat)) :=
  match P.underlying t with
  | some (.array _ e) => (P.info? e).map fun ie => fun i => some (i * ie.size, ie.size)
  | some (.struct fields) => (fields.toList.mapM (fun f => (P.info? f.type).map fun i => (f.offset, i.size))).map fun places => fun i => places.toArray[i]?
  | _ => none

theorem s_build {t : TypeId} {it : TypeInfo} {z : Value} {zero : List V} {place : Nat → Option (Nat × Nat)} {parts : Array (Nat × Value)} {ps : List (Nat × Nat)} {xs : List V} {r : V} (hit : P.info? t = some it) (hz : it.zero = some z)
    (hzr : repCs z.cells.toList zero = true) (hpl : placesOf P t = some place) (hp : parts.toList.map (fun p => place p.1) = ps.map some) (hs : SRepL G (parts.toList.map Prod.snd) xs) (h : rBuild zero ps xs = some r) :
    ∃ cv, (Instr.build t parts).run P w = .ok cv w ∧ SRep G cv r := by
  unfold rBuild at h
  split at h
  · rename_i hd
    cases hf : fillV ps xs zero with
    | none => simp [hf] at h
    | some cs' =>
      simp only [hf, Option.map_some, Option.some.injEq] at h
      subst h
      obtain ⟨hz1, hz2⟩ := repCs_sound (K := G.K) hzr
      obtain ⟨cells', h1, h2, h3, _⟩ := fill_rep place parts.toList ps xs z.cells zero cs' hp hs hd hz1 hz2 hf
      refine ⟨.agg cells', run_build w t parts cells' ?_, .data (by simpa using Rep.agg cells'.toList cs' h3 h2)⟩
      unfold placesOf at hpl
      unfold Program.built
      simp only [hit]
      split at hpl
      · rename_i n e he
        cases hie : P.info? e with
        | none => simp [hie] at hpl
        | some ie =>
          simp only [hie, Option.map_some, Option.some.injEq] at hpl
          subst hpl
          simp only [he, hz, hie]
          exact h1
      · rename_i fields he
        cases hpm : fields.toList.mapM (fun f => (P.info? f.type).map fun i => (f.offset, i.size)) with
        | none => simp [hpm] at hpl
        | some places =>
          simp only [hpm, Option.map_some, Option.some.injEq] at hpl
          subst hpl
          simp only [he, hz, hpm]
          exact h1
      · cases hpl
  · cases h

theorem s_builds {t : TypeId} {it : TypeInfo} {z : Value} {zero : List V} {place : Nat → Option (Nat × Nat)} {parts : Array (Nat × Value)} {ps : List (Nat × Nat)} {xs : List V} {r : V} (hit : P.info? t = some it) (hz : it.zero = some z)
    (hzr : repCs z.cells.toList zero = true) (hpl : placesOf P t = some place) (hp : parts.toList.map (fun p => place p.1) = ps.map some) (hs : SRepL G (parts.toList.map Prod.snd) xs) (h : rBuilds zero ps xs = some r) :
    ∃ cv, (Instr.build t parts).run P w = .ok cv w ∧ SRep G cv r := by
  unfold rBuilds at h
  split at h
  · rename_i hd
    cases hf : fillV ps xs zero with
    | none => simp [hf] at h
    | some cs' =>
      simp only [hf, Option.map_some, Option.some.injEq] at h
      subst h
      obtain ⟨hz1, hz2⟩ := repCs_sound (K := G.K) hzr
      obtain ⟨cells', h1, h2, h3, _⟩ := fill_srep place parts.toList ps xs z.cells zero cs' hp hs hd hz1.toS (fun c hc => okc_sCell (hz2 c hc)) hf
      refine ⟨.agg cells', run_build w t parts cells' ?_, by simpa using SRep.sagg cells'.toList cs' h3 h2⟩
      unfold placesOf at hpl
      unfold Program.built
      simp only [hit]
      split at hpl
      · rename_i n e he
        cases hie : P.info? e with
        | none => simp [hie] at hpl
        | some ie =>
          simp only [hie, Option.map_some, Option.some.injEq] at hpl
          subst hpl
          simp only [he, hz, hie]
          exact h1
      · rename_i fields he
        cases hpm : fields.toList.mapM (fun f => (P.info? f.type).map fun i => (f.offset, i.size)) with
        | none => simp [hpm] at hpl
        | some places =>
          simp only [hpm, Option.map_some, Option.some.injEq] at hpl
          subst hpl
          simp only [he, hz, hpm]
          exact h1
      · cases hpl
  · cases h

theorem s_lsl {t e : TypeId} {i : TypeInfo} {sz : Nat} {a : Value} {lo hi : Option Value} {lo' hi' : Bool} {xs : List V} {r : V} (ht : P.underlying t = some (.slice e)) (hi0 : P.info? e = some i) (hsz : i.size = sz)
    (hlo : lo' = lo.isSome) (hhi : hi' = hi.isSome)
    (hs : SRepL G (a :: (lo.toList ++ hi.toList)) xs) (h : rLsl sz lo' hi' false xs = some r) : ∃ cv, (Instr.sliceAt t a lo hi none).run P w = .ok cv w ∧ SRep G cv r := by
  unfold rLsl at h
  split at h
  · rename_i sz' ys own rest
    cases hs with | cons ha hs =>
    split at h
    · rename_i hh
      obtain ⟨rfl, _⟩ := hh
      cases hb : bounds ys.length ys.length lo' hi' rest with
      | none => simp [hb] at h
      | some p =>
        obtain ⟨x, y⟩ := p
        simp only [hb, Option.map_some, Option.some.injEq] at h
        subst h
        have hz : (sizeOf e).run P w = .ok sz w := by simp [sizeOf, run_info hi0, hsz]
        rcases ha.list_inv with ⟨rfl, base, cap, rfl, hbc⟩ | ⟨b', off, cap, vs, rfl, hc, hl, hok, hK, hr⟩
        · obtain ⟨h1, h2, h3⟩ := bounds_run (P := P) (w := w) (isS := true) (cap := cap) hlo hhi rfl hs hb (Nat.zero_le _)
          simp only [List.length_nil] at h3 h1
          obtain rfl : y = 0 := by omega
          obtain rfl : x = 0 := by omega
          have hbase : base.map (fun x => x.add (0 * sz)) = base := by
            cases base <;> simp [Addr.add]
          refine ⟨.slice base 0 cap, ?_, .data ?_⟩
          · simp only [Instr.sliceAt, Instr.slice, Sem.run_bind, run_und ht, Result.andThen_ok, h1, hz, Sem.run_pure, hbase]
            simp
          · cases base with
            | none => rw [hbc rfl]; simpa using .lnil sz false
            | some a => simpa using .lemp a cap sz false
        · obtain ⟨h1, h2, h3⟩ := bounds_run (P := P) (w := w) (isS := true) (cap := cap) hlo hhi rfl hs hb hc
          have hlen : ((ys.take y).drop x).length = y - x := by rw [List.length_drop, List.length_take]; omega
          have hmem : ∀ q ∈ (ys.take y).drop x, q ∈ ys := fun q hq => List.mem_of_mem_take (List.mem_of_mem_drop hq)
          have hfl : flat ((ys.take y).drop x) = ((flat ys).drop (x * sz)).take ((y - x) * sz) := by
            rw [List.drop_take, ← flat_take (fun q hq => hl q (List.mem_of_mem_drop hq)), flat_drop hl]
          have hrun : (Instr.sliceAt t (.slice (some ⟨b', off, none⟩) ys.length cap) lo hi none).run P w =
              .ok (.slice (if cap = x then some ⟨b', off, none⟩ else some ⟨b', off + x * sz, none⟩) (y - x) (cap - x)) w := by
            simp only [Instr.sliceAt, Instr.slice, Sem.run_bind, run_und ht, Result.andThen_ok, h1, hz, Sem.run_pure, Option.map_some, addr_add]
          rw [hrun]
          by_cases hcx : cap = x
          · have hyx : y - x = 0 := by omega
            have hnil : (ys.take y).drop x = [] := List.eq_nil_of_length_eq_zero (by omega)
            rw [if_pos hcx, hyx, hnil]
            refine ⟨_, rfl, .data ?_⟩
            have := Rep.list (K := G.K) b' off (cap - x) sz [] false [] (by simp) (by simp) (by simp [flat]) (by simp) (by simp [flat]; exact .nil)
            simpa using this
          · rw [if_neg hcx]
            refine ⟨_, rfl, .data ?_⟩
            rw [← hlen]
            refine .list b' (off + x * sz) (cap - x) sz _ false ((vs.drop (x * sz)).take ((y - x) * sz)) (by rw [hlen]; omega) (fun q hq => hl q (hmem q hq)) ?_ ?_ ?_
            · rw [hfl]; exact RepL.okc_take (RepL.okc_drop hok _) _
            · intro q u hu
              rw [List.getElem?_take] at hu
              split at hu
              · rw [List.getElem?_drop] at hu
                rw [Nat.add_assoc]; exact hK _ _ hu
              · cases hu
            · rw [hfl]; exact (hr.drop _).take _
    · cases h
  · rename_i l t' o sz' n rest
    cases hs with | cons ha hs =>
    split at h
    · rename_i hh
      obtain ⟨rfl, _⟩ := hh
      cases hb : bounds n n lo' hi' rest with
      | none => simp [hb] at h
      | some p =>
        obtain ⟨x, y⟩ := p
        simp only [hb, Option.map_some, Option.some.injEq] at h
        subst h
        have hz : (sizeOf e).run P w = .ok sz w := by simp [sizeOf, run_info hi0, hsz]
        obtain ⟨bb, nn, off, cap, ⟨g1, g2, g3⟩, hlc, hcap, rfl⟩ := ha.slc_inv
        obtain ⟨h1, h2, h3⟩ := bounds_run (P := P) (w := w) (isS := true) (cap := cap) hlo hhi rfl hs hb hlc.1
        have hrun : (Instr.sliceAt t (.slice (some ⟨bb, off, none⟩) n cap) lo hi none).run P w =
            .ok (.slice (if cap = x then some ⟨bb, off, none⟩ else some ⟨bb, off + x * sz, none⟩) (y - x) (cap - x)) w := by
          simp only [Instr.sliceAt, Instr.slice, Sem.run_bind, run_und ht, Result.andThen_ok, h1, hz, Sem.run_pure, Option.map_some, addr_add]
        rw [hrun]
        by_cases hcx : cap = x
        · rw [if_pos hcx]
          exact ⟨_, rfl, .slc l t' _ sz _ bb nn off _ g1 g2 g3 ⟨by omega, by omega⟩ (.inl (by omega))⟩
        · rw [if_neg hcx]
          refine ⟨_, rfl, .slc l t' _ sz _ bb nn _ _ g1 g2 g3 ⟨by omega, by omega⟩ (.inr ?_)⟩
          rcases hcap with h0 | ⟨rfl, h0⟩
          · omega
          · refine ⟨rfl, ?_⟩
            have : (x + (cap - x)) * sz = cap * sz := by congr 1; omega
            rw [Nat.add_mul] at this
            omega
    · cases h
  · cases h

theorem s_lsl0 {t e : TypeId} {i : TypeInfo} {sz : Nat} {a b c : Value} {xs : List V} {r : V} (ht : P.underlying t = some (.slice e)) (hi0 : P.info? e = some i) (hsz : i.size = sz)
    (hs : SRepL G [a, b, c] xs) (h : rLsl0 sz xs = some r) : ∃ base, (Instr.sliceAt t a none (some b) (some c)).run P w = .ok (.slice base 0 0) w ∧ r = .list sz [] true := by
  unfold rLsl0 at h
  split at h
  · rename_i sz' ys own k k'
    cases hs with | cons ha hs => cases hs with | cons hb hs => cases hs with | cons hc hs =>
    split at h
    · rename_i hh
      subst hh
      injection h with h; subst h
      have hz : (sizeOf e).run P w = .ok sz w := by simp [sizeOf, run_info hi0, hsz]
      rw [hb.int_inv, hc.int_inv]
      obtain ⟨base, len, cap, rfl⟩ : ∃ base len cap, a = .slice base len cap := by
        rcases ha.list_inv with ⟨_, base, cap, h1, _⟩ | ⟨b', off, cap, vs, h1, _⟩
        · exact ⟨_, _, _, h1⟩
        · exact ⟨_, _, _, h1⟩
      refine ⟨base, ?_, rfl⟩
      simp only [Instr.sliceAt, Instr.slice, Sem.run_bind, run_und ht, Result.andThen_ok, Instr.sliceBounds, Instr.sliceBound, asIntOf, hz, Sem.run_pure]
      rw [if_pos ⟨by omega, by omega⟩]
      simp [hz]
    · cases h
  · cases h

theorem chunk_length (sz : Nat) : ∀ (n : Nat) (cs : List V), (chunk sz n cs).length = n
  | 0, _ => rfl
  | n + 1, cs => by simp [chunk, chunk_length sz n]

theorem chunk_flat {sz : Nat} (hsz : 0 < sz) : ∀ (n : Nat) (cs : List V), cs.length = n * sz → (∀ c ∈ cs, okc c = true) → flat (chunk sz n cs) = cs ∧ ∀ x ∈ chunk sz n cs, x.cells.length = sz
  | 0, cs, h, _ => by
    have : cs = [] := List.eq_nil_of_length_eq_zero (by simpa using h)
    subst this
    simp [chunk, flat]
  | n + 1, cs, h, hok => by
    rw [Nat.add_mul, Nat.one_mul] at h
    obtain ⟨h1, h2⟩ := chunk_flat hsz n (cs.drop sz) (by rw [List.length_drop]; omega) (fun c hc => hok c (List.mem_of_mem_drop hc))
    have hhead : (if sz = 1 then cs.headD .junk else .agg (cs.take sz)).cells = cs.take sz := by
      by_cases h1 : sz = 1
      · subst h1
        cases cs with
        | nil => simp at h
        | cons c r =>
          simp only [if_true, List.headD_cons, List.take_succ_cons, List.take_zero]
          exact okc_cells (hok c (by simp))
      · rw [if_neg h1]; rfl
    refine ⟨?_, fun x hx => ?_⟩
    · simp only [chunk, flat, hhead, h1, List.take_append_drop]
    · simp only [chunk, List.mem_cons] at hx
      rcases hx with rfl | hx
      · rw [hhead, List.length_take]; omega
      · exact h2 x hx

theorem s_asl {t e : TypeId} {n sz : Nat} {i : TypeInfo} {a : Value} {xs : List V} {r : V} (ht : P.underlying t = some (.array n e)) (hi : P.info? e = some i) (hsz : i.size = sz)
    (hs : SRepL G [a] xs) (h : rAsl n sz xs = some r) : ∃ cv, (Instr.sliceAt t a none none none).run P w = .ok cv w ∧ SRep G cv r := by
  have hz : (sizeOf e).run P w = .ok sz w := by simp [sizeOf, run_info hi, hsz]
  unfold rAsl at h
  split at h
  · rename_i cs
    cases hs with | cons ha hs =>
    obtain ⟨bb, o, vs, rfl, hok, hK, hr⟩ := ha.cptr_inv
    split at h
    · rename_i hh
      injection h with h; subst h
      obtain ⟨f1, f2⟩ := chunk_flat hh.1 n cs hh.2 hok
      have hl := chunk_length sz n cs
      refine ⟨.slice (some ⟨bb, o, none⟩) n n, ?_, .data ?_⟩
      · simp only [Instr.sliceAt, Sem.run_bind, run_und ht, Result.andThen_ok, Instr.sureAddr, Instr.sliceBounds, hz, Sem.run_pure]
        by_cases h0 : n = 0
        · subst h0; simp
        · rw [if_neg h0]; simp [addr_add]
      · have := Rep.list (K := G.K) bb o n sz (chunk sz n cs) false vs (by rw [hl]; exact Nat.le_refl _) f2 (by rw [f1]; exact hok) hK (by rw [f1]; exact hr)
        rw [hl] at this
        exact this
    · cases h
  · cases h

theorem s_mkf {fn : Fn} {nf : Nat} {f c : Array Value} {xs : List V} {r : V} (hf : f.size = nf) (hs : SRepL G (f.toList ++ c.toList) xs) (h : rMkf fn nf xs = some r) :
    ∃ cv, (Instr.makeFunc fn f c).run P w = .ok cv w ∧ SRep G cv r := by
  simp only [rMkf, Option.some.injEq] at h
  subst h
  refine ⟨.func fn f c, rfl, ?_⟩
  have h1 := hs.take nf
  have h2 := hs.drop nf
  rw [List.take_left' (by simpa using hf)] at h1
  rw [List.drop_left' (by simpa using hf)] at h2
  simpa using SRep.func fn f.toList c.toList _ _ h1 h2

end ops
end Go.Proofs.YtpmpofcokkgfdaaGreatDoor.Ev
