/- The evaluator's limit: more fuel gives the same answer; the equations that hold without fuel. No program in sight. -/
import Derived.Test.YtpmpofcokkgfdaaGreatDoorEv1
namespace Go.Proofs.YtpmpofcokkgfdaaGreatDoor.Ev
open Go

def Le {α : Type} (a b : Option α) : Prop := ∀ x, a = some x → b = some x

theorem Le.refl {α : Type} (a : Option α) : Le a a := fun _ h => h
theorem Le.none {α : Type} (b : Option α) : Le Option.none b := fun _ h => by cases h
theorem Le.bind {α β : Type} {a b : Option α} {f g : α → Option β} (h : Le a b) (hf : ∀ x, Le (f x) (g x)) : Le (a.bind f) (b.bind g) := by
  intro x hx
  cases ha : a with
  | none => rw [ha] at hx; cases hx
  | some y => rw [ha] at hx; rw [h y ha]; exact hf y x hx
theorem Le.map {α β : Type} {a b : Option α} {f : α → β} (h : Le a b) : Le (a.map f) (b.map f) := by
  intro x hx
  cases ha : a with
  | none => rw [ha] at hx; cases hx
  | some y => rw [ha] at hx; rw [h y ha]; exact hx

def CLe (f g : CallF) : Prop := ∀ a b c, Le (f a b c) (g a b c)

theorem runW_mono {f g : CallF} (h : CLe f g) (p : Prim) (d : Option Nat) (xs : List V) (m : Mem) : Le (runW f p d xs m) (runW g p d xs m) := by
  cases p <;> first | exact Le.refl _ | skip
  · exact h _ _ _
  · rename_i k
    show Le (rCallt f k d xs m) (rCallt g k d xs m)
    unfold rCallt rCallp
    refine Le.map ?_
    split
    · exact Le.bind (h _ _ _) (fun _ => Le.refl _)
    · exact Le.none _
  · show Le (rCallv f xs m) (rCallv g xs m)
    unfold rCallv; split <;> first | exact h _ _ _ | exact Le.none _

theorem runC_mono {f g : CallF} (h : CLe f g) (p : Prim) (xs : List V) : Le (runC f p xs) (runC g p xs) := by
  cases p <;> first | exact Le.refl _ | skip
  rename_i k
  show Le (rCallp f k xs) (rCallp g k xs)
  unfold rCallp
  split
  · exact Le.bind (h _ _ _) (fun _ => Le.refl _)
  · exact Le.none _

theorem run_mono {f g : CallF} (h : CLe f g) (p : Prim) (d : Option Nat) (xs : List V) (m : Mem) : Le (p.run f d xs m) (p.run g d xs m) := by
  unfold Prim.run
  split
  · exact Le.refl _
  · exact Le.refl _
  · exact Le.map (runC_mono h p xs)
  · exact runW_mono h p d xs m

theorem exec_mono {f g : CallF} (h : CLe f g) (o : AOp) (s : St) : Le (o.exec f s) (o.exec g s) := by
  unfold AOp.exec
  exact Le.map (run_mono h _ _ _ _)

theorem evOp_mono {f g : CallF} (h : CLe f g) (o : AOp) (s : St) : Le (evOp f o s) (evOp g o s) := by
  unfold evOp
  split
  · exact exec_mono h o s
  · split
    · rename_i c _
      cases (c == _) with
      | true => exact exec_mono h o s
      | false => exact Le.refl _
    · exact Le.refl _
    · exact Le.none _

theorem evOps_mono {f g : CallF} (h : CLe f g) : ∀ (l : List AOp) (s : St), Le (evOps f l s) (evOps g l s)
  | [], _ => Le.refl _
  | o :: r, s => Le.bind (evOp_mono h o s) (fun _ => evOps_mono h r _)

theorem evOpsD_some {f : CallF} {l : List AOp} {alts : List (List Nat)} {s s' : St} : evOpsD f l alts s = some s' ↔ evOps f l s = some s' ∧ ∀ y ∈ alts, evOps f (pickOps l y) s = some s' := by
  unfold evOpsD
  constructor
  · intro h
    obtain ⟨s1, h1, h2⟩ := Option.bind_eq_some_iff.1 h
    split at h2
    · rename_i hc
      injection h2 with h2
      subst h2
      exact ⟨h1, hc⟩
    · cases h2
  · rintro ⟨h1, h2⟩
    rw [h1, Option.bind_some, if_pos h2]

theorem evOpsD_mono {f g : CallF} (h : CLe f g) (l : List AOp) (alts : List (List Nat)) (s : St) : Le (evOpsD f l alts s) (evOpsD g l alts s) := fun x hx => by
  obtain ⟨h1, h2⟩ := evOpsD_some.1 hx
  exact evOpsD_some.2 ⟨evOps_mono h l s x h1, fun y hy => evOps_mono h _ s x (h2 y hy)⟩

theorem iterL_mono {f g : St → Res} (h : ∀ s, Le (f s) (g s)) : ∀ {n k : Nat}, n ≤ k → ∀ s, Le (iterL f n s) (iterL g k s)
  | 0, _, _, _ => Le.none _
  | n + 1, 0, hk, _ => by omega
  | n + 1, k + 1, hk, s => by
    unfold iterL
    refine Le.bind (h s) (fun x => ?_)
    obtain ⟨e, s'⟩ := x
    cases e with
    | normal => exact iterL_mono h (by omega) s'
    | _ => exact Le.refl _

theorem iterS_mono {f g : Nat → St → Option Res} (h : ∀ l s r, f l s = some r → ∃ r', g l s = some r' ∧ Le r r') :
    ∀ {n k : Nat}, n ≤ k → ∀ {r r' : Res}, Le r r' → Le (iterS f n r) (iterS g k r')
  | 0, _, _, _, _, _ => Le.none _
  | n + 1, 0, hk, _, _, _ => by omega
  | n + 1, k + 1, hk, r, r', hr => by
    unfold iterS
    refine Le.bind hr (fun x => ?_)
    obtain ⟨e, s'⟩ := x
    cases e with
    | goto l =>
      intro y hy
      cases hf : f l s' with
      | none => simp [hf] at hy
      | some r1 =>
        obtain ⟨r2, hg, hle⟩ := h l s' r1 hf
        simp only [hf, Option.bind_some] at hy
        simp only [hg, Option.bind_some]
        exact iterS_mono h (by omega) hle y hy
    | _ => exact Le.refl _

theorem evC_mono {f g : CallF} (h : CLe f g) {n k : Nat} (hn : n ≤ k) : ∀ {d e : Nat}, d ≤ e → ∀ (c : ACode) (s : St), Le (evC f n d c s) (evC g k e c s)
  | 0, _, _, _, _ => Le.none _
  | d + 1, 0, hd, _, _ => by omega
  | d + 1, e + 1, hd, c, s => by
    have ih : ∀ c s, Le (evC f n d c s) (evC g k e c s) := fun c s => evC_mono h hn (by omega) c s
    cases c with
    | skip => exact Le.refl _
    | ops l cl dr => exact Le.bind (evOps_mono h l s) (fun _ => Le.refl _)
    | opsd l D alts cl dr => exact Le.bind (evOpsD_mono h l alts s) (fun _ => Le.refl _)
    | seq a b =>
      refine Le.bind (ih a s) (fun x => ?_)
      obtain ⟨e, s'⟩ := x
      cases e with
      | normal => exact ih b s'
      | _ => exact Le.refl _
    | cond c a b =>
      unfold evC
      split
      · rename_i t _
        cases t with
        | true => exact ih a s
        | false => exact ih b s
      · exact Le.none _
    | block id b => exact Le.bind (ih b s) (fun _ => Le.refl _)
    | loop b => exact iterL_mono (fun s => ih b s) hn s
    | exit id => exact Le.refl _
    | scope b =>
      unfold evC
      refine iterS_mono (fun l s r hr => ?_) hn (ih b s)
      cases hf : findL b l with
      | none => simp [hf] at hr
      | some rest =>
        simp only [hf, Option.map_some, Option.some.injEq] at hr
        subst hr
        exact ⟨_, rfl, ih rest s⟩
    | label l => exact Le.refl _
    | goto l => exact Le.refl _
    | ret => exact Le.refl _
    | clr cl dr b => exact Le.bind (Le.refl _) (fun s => ih b s)

variable (A : Nat → Option AFunc) (prim : CallF)

theorem evF_succ : ∀ n, CLe (evF A prim n) (evF A prim (n + 1))
  | 0 => fun _ _ _ => Le.none _
  | n + 1 => by
    intro f xs m
    have ih := evF_succ n
    show Le (evF A prim (n + 1) f xs m) (evF A prim (n + 2) f xs m)
    unfold evF
    split
    · exact Le.refl _
    · split
      · exact Le.bind (evC_mono ih (by omega) (by omega) _ _) (fun _ => Le.refl _)
      · exact Le.refl _

theorem evF_mono {n k : Nat} (h : n ≤ k) : CLe (evF A prim n) (evF A prim k) := by
  induction k with
  | zero => have : n = 0 := by omega
            subst this; exact fun _ _ _ => Le.refl _
  | succ k ih =>
    by_cases hk : n = k + 1
    · subst hk; exact fun _ _ _ => Le.refl _
    · exact fun a b c x hx => evF_succ A prim k a b c x (ih (by omega) a b c x hx)

theorem bind_some_iff' {α β : Type} {a : Option α} {f : α → Option β} {y : β} : a.bind f = some y ↔ ∃ x, a = some x ∧ f x = some y := by
  cases a <;> simp

/-- The limit of what more fuel gives. -/
noncomputable def lim {α : Type} (f : Nat → Option α) : Option α :=
  open Classical in if h : ∃ x n, f n = some x then some (Classical.choose h) else none

def Mono {α : Type} (f : Nat → Option α) : Prop := ∀ n k, n ≤ k → Le (f n) (f k)

theorem lim_iff {α : Type} {f : Nat → Option α} (hf : Mono f) (x : α) : lim f = some x ↔ ∃ n, f n = some x := by
  unfold lim
  constructor
  · intro h
    split at h
    · rename_i hex
      obtain ⟨n, hn⟩ := Classical.choose_spec hex
      exact ⟨n, by rw [hn]; exact h⟩
    · cases h
  · rintro ⟨n, hn⟩
    have hex : ∃ x n, f n = some x := ⟨x, n, hn⟩
    rw [dif_pos hex]
    obtain ⟨k, hk⟩ := Classical.choose_spec hex
    have h1 := hf n (max n k) (Nat.le_max_left _ _) _ hn
    have h2 := hf k (max n k) (Nat.le_max_right _ _) _ hk
    rw [h1] at h2
    exact h2.symm

/-- A function's answer. -/
noncomputable def ev : CallF := fun f xs m => lim fun n => evF A prim n f xs m
/-- Code's answer. -/
noncomputable def cv (c : ACode) (s : St) : Res := lim fun n => evC (evF A prim n) n n c s

theorem ev_iff (f : Nat) (xs : List V) (m : Mem) (x : V × Mem) : ev A prim f xs m = some x ↔ ∃ n, evF A prim n f xs m = some x :=
  lim_iff (fun _ _ h => evF_mono A prim h f xs m) x

theorem cv_mono (c : ACode) (s : St) : Mono fun n => evC (evF A prim n) n n c s :=
  fun _ _ h => evC_mono (evF_mono A prim h) h h c s

theorem cv_iff (c : ACode) (s : St) (x : AExit × St) : cv A prim c s = some x ↔ ∃ n, evC (evF A prim n) n n c s = some x :=
  lim_iff (cv_mono A prim c s) x

theorem evF_le_ev (n : Nat) : CLe (evF A prim n) (ev A prim) := fun f xs m x h => (ev_iff A prim f xs m x).2 ⟨n, h⟩

theorem evC_le_cv {n d : Nat} (c : ACode) (s : St) : Le (evC (evF A prim n) n d c s) (cv A prim c s) := fun x h =>
  (cv_iff A prim c s x).2 ⟨max n d, evC_mono (evF_mono A prim (Nat.le_max_left n d)) (Nat.le_max_left n d) (Nat.le_max_right n d) c s x h⟩

theorem runC_fin {p : Prim} {xs : List V} {x : V} (h : runC (ev A prim) p xs = some x) : ∃ n, runC (evF A prim n) p xs = some x := by
  cases p <;> first | exact ⟨0, h⟩ | skip
  rename_i k
  replace h : rCallp (ev A prim) k xs = some x := h
  show ∃ n, rCallp (evF A prim n) k xs = some x
  unfold rCallp at h ⊢
  split at h
  · rename_i hc
    obtain ⟨y, h1, h2⟩ := bind_some_iff'.1 h
    obtain ⟨n, hn⟩ := (ev_iff A prim _ _ _ y).1 h1
    exact ⟨n, by rw [if_pos hc, hn]; exact h2⟩
  · cases h

/-- Operations need but finitely much of what is called. -/
theorem runW_fin {p : Prim} {d : Option Nat} {xs : List V} {m : Mem} {x : V × Mem} (h : runW (ev A prim) p d xs m = some x) :
    ∃ n, runW (evF A prim n) p d xs m = some x := by
  cases p <;> first | exact ⟨0, h⟩ | skip
  · exact (ev_iff A prim _ _ _ x).1 h
  · rename_i k
    replace h : rCallt (ev A prim) k d xs m = some x := h
    obtain ⟨y, h1, h2⟩ := Option.map_eq_some_iff.1 h
    obtain ⟨n, hn⟩ := runC_fin A prim (p := .callp k) (x := y) h1
    replace hn : rCallp (evF A prim n) k xs = some y := hn
    exact ⟨n, by show (rCallp (evF A prim n) k xs).map _ = _; rw [hn, Option.map_some, h2]⟩
  · replace h : rCallv (ev A prim) xs m = some x := h
    show ∃ n, rCallv (evF A prim n) xs m = some x
    unfold rCallv at h ⊢
    split at h
    · exact (ev_iff A prim _ _ _ x).1 h
    · cases h

theorem exec_fin {o : AOp} {s s' : St} (h : o.exec (ev A prim) s = some s') : ∃ n, o.exec (evF A prim n) s = some s' := by
  unfold AOp.exec Prim.run at h ⊢
  split at h
  · exact ⟨0, h⟩
  · exact ⟨0, h⟩
  · cases hr : runC (ev A prim) o.pr (o.args.map (readArg s.env)) with
    | none => rw [hr] at h; cases h
    | some x =>
      obtain ⟨n, hn⟩ := runC_fin A prim hr
      exact ⟨n, by rw [hn]; rw [hr] at h; exact h⟩
  · cases hr : runW (ev A prim) o.pr o.dst (o.args.map (readArg s.env)) s.mem with
    | none => rw [hr] at h; cases h
    | some x =>
      obtain ⟨n, hn⟩ := runW_fin A prim hr
      exact ⟨n, by rw [hn]; rw [hr] at h; exact h⟩

theorem evOp_fin {o : AOp} {s s' : St} (h : evOp (ev A prim) o s = some s') : ∃ n, evOp (evF A prim n) o s = some s' := by
  unfold evOp at h ⊢
  split at h
  · exact exec_fin A prim h
  · split at h
    · rename_i c _
      revert h
      cases (c == _) with
      | true => exact fun h => exec_fin A prim h
      | false => exact fun h => ⟨0, h⟩
    · exact ⟨0, h⟩
    · cases h

theorem evOps_fin : ∀ {l : List AOp} {s s' : St}, evOps (ev A prim) l s = some s' → ∃ n, evOps (evF A prim n) l s = some s'
  | [], _, _, h => ⟨0, h⟩
  | o :: r, s, s', h => by
    unfold evOps at h
    cases h1 : evOp (ev A prim) o s with
    | none => rw [h1] at h; cases h
    | some s1 =>
      rw [h1] at h
      obtain ⟨n, hn⟩ := evOp_fin A prim h1
      obtain ⟨k, hk⟩ := evOps_fin h
      refine ⟨max n k, ?_⟩
      unfold evOps
      rw [evOp_mono (evF_mono A prim (Nat.le_max_left n k)) o s s1 hn]
      exact evOps_mono (evF_mono A prim (Nat.le_max_right n k)) r s1 s' hk

theorem opt_ext {α : Type} {a b : Option α} (h : ∀ x, a = some x ↔ b = some x) : a = b := by
  cases a with
  | none =>
    cases b with
    | none => rfl
    | some y => exact absurd ((h y).2 rfl) (by simp)
  | some x => exact ((h x).1 rfl).symm

theorem bind_some_iff {α β : Type} {a : Option α} {f : α → Option β} {y : β} : a.bind f = some y ↔ ∃ x, a = some x ∧ f x = some y := by
  cases a <;> simp

theorem cv_skip (s : St) : cv A prim .skip s = some (.normal, s) := (cv_iff A prim _ _ _).2 ⟨1, rfl⟩
theorem cv_exit (id : Nat) (s : St) : cv A prim (.exit id) s = some (.exit id, s) := (cv_iff A prim _ _ _).2 ⟨1, rfl⟩
theorem cv_goto (l : Nat) (s : St) : cv A prim (.goto l) s = some (.goto l, s) := (cv_iff A prim _ _ _).2 ⟨1, rfl⟩
theorem cv_label (l : Nat) (s : St) : cv A prim (.label l) s = some (.normal, s) := (cv_iff A prim _ _ _).2 ⟨1, rfl⟩
theorem cv_ret (s : St) : cv A prim .ret s = some (.ret, s) := (cv_iff A prim _ _ _).2 ⟨1, rfl⟩

theorem cv_ops (l : List AOp) (cl dr : List Nat) (s : St) : cv A prim (.ops l cl dr) s =
    (evOps (ev A prim) l s).bind fun s' => (dropAll dr { s' with env := eraseAll cl s'.env }).map fun s'' => (.normal, s'') := by
  refine opt_ext fun x => ?_
  rw [cv_iff, bind_some_iff]
  constructor
  · rintro ⟨n, hn⟩
    cases n with
    | zero => cases hn
    | succ n =>
      unfold evC at hn
      obtain ⟨s', h1, h2⟩ := bind_some_iff.1 hn
      exact ⟨s', evOps_mono (evF_le_ev A prim _) l s s' h1, h2⟩
  · rintro ⟨s', h1, h2⟩
    obtain ⟨n, hn⟩ := evOps_fin A prim h1
    refine ⟨n + 1, ?_⟩
    unfold evC
    rw [evOps_mono (evF_mono A prim (Nat.le_succ n)) l s s' hn]
    exact h2

theorem evOpsAll_fin {l : List AOp} {s s' : St} : ∀ {ys : List (List Nat)}, (∀ y ∈ ys, evOps (ev A prim) (pickOps l y) s = some s') → ∃ n, ∀ y ∈ ys, evOps (evF A prim n) (pickOps l y) s = some s'
  | [], _ => ⟨0, by simp⟩
  | y :: r, h => by
    obtain ⟨n, hn⟩ := evOps_fin A prim (h y (by simp))
    obtain ⟨k, hk⟩ := evOpsAll_fin (ys := r) fun z hz => h z (by simp [hz])
    refine ⟨max n k, fun z hz => ?_⟩
    rcases List.mem_cons.1 hz with rfl | hz
    · exact evOps_mono (evF_mono A prim (Nat.le_max_left n k)) _ s s' hn
    · exact evOps_mono (evF_mono A prim (Nat.le_max_right n k)) _ s s' (hk z hz)

theorem cv_opsd (l : List AOp) (D : List Nat) (alts : List (List Nat)) (cl dr : List Nat) (s : St) : cv A prim (.opsd l D alts cl dr) s =
    (evOpsD (ev A prim) l alts s).bind fun s' => (dropAll dr { s' with env := eraseAll cl s'.env }).map fun s'' => (.normal, s'') := by
  refine opt_ext fun x => ?_
  rw [cv_iff, bind_some_iff]
  constructor
  · rintro ⟨n, hn⟩
    cases n with
    | zero => cases hn
    | succ n =>
      unfold evC at hn
      obtain ⟨s', h1, h2⟩ := bind_some_iff.1 hn
      exact ⟨s', evOpsD_mono (evF_le_ev A prim _) l alts s s' h1, h2⟩
  · rintro ⟨s', h1, h2⟩
    obtain ⟨h3, h4⟩ := evOpsD_some.1 h1
    obtain ⟨n, hn⟩ := evOps_fin A prim h3
    obtain ⟨k, hk⟩ := evOpsAll_fin A prim h4
    refine ⟨max n k + 1, ?_⟩
    unfold evC
    rw [evOpsD_some.2 ⟨evOps_mono (evF_mono A prim (by omega)) l s s' hn, fun y hy => evOps_mono (evF_mono A prim (by omega)) _ s s' (hk y hy)⟩]
    exact h2

theorem cv_clr (cl dr : List Nat) (b : ACode) (s : St) : cv A prim (.clr cl dr b) s = (dropAll dr { s with env := eraseAll cl s.env }).bind (cv A prim b) := by
  refine opt_ext fun x => ?_
  rw [cv_iff, bind_some_iff]
  constructor
  · rintro ⟨n, hn⟩
    cases n with
    | zero => cases hn
    | succ n =>
      unfold evC at hn
      obtain ⟨y, h1, h2⟩ := bind_some_iff.1 hn
      exact ⟨y, h1, evC_le_cv A prim b y _ h2⟩
  · rintro ⟨y, h1, h2⟩
    obtain ⟨n, hn⟩ := (cv_iff A prim _ _ _).1 h2
    refine ⟨n + 1, ?_⟩
    unfold evC
    rw [h1]
    exact evC_mono (evF_mono A prim (by omega)) (by omega) (Nat.le_refl n) b y _ hn

theorem cv_seq (a b : ACode) (s : St) : cv A prim (.seq a b) s = (cv A prim a s).bind fun (e, s') => match e with
    | .normal => cv A prim b s'
    | e => some (e, s') := by
  refine opt_ext fun x => ?_
  rw [cv_iff, bind_some_iff]
  constructor
  · rintro ⟨n, hn⟩
    cases n with
    | zero => cases hn
    | succ n =>
      unfold evC at hn
      obtain ⟨⟨e, s'⟩, h1, h2⟩ := bind_some_iff.1 hn
      refine ⟨(e, s'), evC_le_cv A prim a s _ h1, ?_⟩
      cases e with
      | normal => exact evC_le_cv A prim b s' x h2
      | _ => exact h2
  · rintro ⟨⟨e, s'⟩, h1, h2⟩
    obtain ⟨n, hn⟩ := (cv_iff A prim _ _ _).1 h1
    cases e with
    | normal =>
      obtain ⟨k, hk⟩ := (cv_iff A prim _ _ _).1 h2
      refine ⟨max n k + 1, ?_⟩
      unfold evC
      rw [evC_mono (evF_mono A prim (by omega)) (by omega) (Nat.le_max_left n k) a s _ hn]
      exact evC_mono (evF_mono A prim (by omega)) (by omega) (Nat.le_max_right n k) b s' x hk
    | _ =>
      refine ⟨n + 1, ?_⟩
      unfold evC
      rw [evC_mono (evF_mono A prim (by omega)) (by omega) (Nat.le_refl n) a s _ hn]
      exact h2

theorem cv_cond (c : AArg) (a b : ACode) (s : St) : cv A prim (.cond c a b) s = (match readArg s.env c with
    | .bool t => bif t then cv A prim a s else cv A prim b s
    | _ => none) := by
  refine opt_ext fun x => ?_
  rw [cv_iff]
  cases hc : readArg s.env c with
  | bool t =>
    constructor
    · rintro ⟨n, hn⟩
      cases n with
      | zero => cases hn
      | succ n =>
        unfold evC at hn
        rw [hc] at hn
        cases t with
        | true => exact evC_le_cv A prim a s x hn
        | false => exact evC_le_cv A prim b s x hn
    · intro h
      cases t with
      | true =>
        obtain ⟨n, hn⟩ := (cv_iff A prim a s x).1 h
        refine ⟨n + 1, ?_⟩
        unfold evC
        rw [hc]
        exact evC_mono (evF_mono A prim (by omega)) (by omega) (Nat.le_refl n) a s _ hn
      | false =>
        obtain ⟨n, hn⟩ := (cv_iff A prim b s x).1 h
        refine ⟨n + 1, ?_⟩
        unfold evC
        rw [hc]
        exact evC_mono (evF_mono A prim (by omega)) (by omega) (Nat.le_refl n) b s _ hn
  | _ =>
    constructor
    · rintro ⟨n, hn⟩
      cases n with
      | zero => cases hn
      | succ n => unfold evC at hn; rw [hc] at hn; cases hn
    · intro h; cases h

theorem cv_block (id : Nat) (b : ACode) (s : St) : cv A prim (.block id b) s = (cv A prim b s).bind (blockExit id) := by
  refine opt_ext fun x => ?_
  rw [cv_iff, bind_some_iff]
  constructor
  · rintro ⟨n, hn⟩
    cases n with
    | zero => cases hn
    | succ n =>
      unfold evC at hn
      obtain ⟨y, h1, h2⟩ := bind_some_iff.1 hn
      exact ⟨y, evC_le_cv A prim b s _ h1, h2⟩
  · rintro ⟨y, h1, h2⟩
    obtain ⟨n, hn⟩ := (cv_iff A prim _ _ _).1 h1
    refine ⟨n + 1, ?_⟩
    unfold evC
    rw [evC_mono (evF_mono A prim (by omega)) (by omega) (Nat.le_refl n) b s _ hn]
    exact h2

theorem cv_loop (b : ACode) (s : St) : cv A prim (.loop b) s = (cv A prim b s).bind fun (e, s') => match e with
    | .normal => cv A prim (.loop b) s'
    | e => some (e, s') := by
  refine opt_ext fun x => ?_
  rw [cv_iff, bind_some_iff]
  constructor
  · rintro ⟨n, hn⟩
    cases n with
    | zero => cases hn
    | succ n =>
      unfold evC iterL at hn
      obtain ⟨⟨e, s'⟩, h1, h2⟩ := bind_some_iff.1 hn
      refine ⟨(e, s'), evC_le_cv A prim b s _ h1, ?_⟩
      cases e with
      | normal =>
        refine (cv_iff A prim _ _ _).2 ⟨n + 1, ?_⟩
        unfold evC
        exact iterL_mono (fun _ => Le.refl _) (Nat.le_succ n) s' x h2
      | _ => exact h2
  · rintro ⟨⟨e, s'⟩, h1, h2⟩
    obtain ⟨n, hn⟩ := (cv_iff A prim _ _ _).1 h1
    cases e with
    | normal =>
      obtain ⟨k, hk⟩ := (cv_iff A prim _ _ _).1 h2
      cases k with
      | zero => cases hk
      | succ k =>
        unfold evC at hk
        refine ⟨max n k + 2, ?_⟩
        unfold evC iterL
        rw [evC_mono (evF_mono A prim (k := max n k + 2) (by omega)) (by omega) (by omega) b s _ hn]
        exact iterL_mono (fun s => evC_mono (evF_mono A prim (by omega)) (by omega) (by omega) b s) (by omega) s' x hk
    | _ =>
      refine ⟨n + 1, ?_⟩
      unfold evC iterL
      rw [evC_mono (evF_mono A prim (k := n + 1) (by omega)) (by omega) (by omega) b s _ hn]
      exact h2

/-- What becomes of a scope's code behind its first way out. -/
noncomputable def cj (b : ACode) (r : Res) : Res := lim fun n => iterS (fun l s' => (findL b l).map fun rest => evC (evF A prim n) n n rest s') n r

theorem cj_run_mono (b : ACode) {n k d e : Nat} (h : n ≤ k) (hd : d ≤ e) (l : Nat) (s : St) (r : Res) (hr : (findL b l).map (fun rest => evC (evF A prim n) n d rest s) = some r) :
    ∃ r', (findL b l).map (fun rest => evC (evF A prim k) k e rest s) = some r' ∧ Le r r' := by
  cases hf : findL b l with
  | none => simp [hf] at hr
  | some rest =>
    simp only [hf, Option.map_some, Option.some.injEq] at hr
    subst hr
    exact ⟨_, rfl, evC_mono (evF_mono A prim h) h hd rest s⟩

theorem cj_iff (b : ACode) (r : Res) (x : AExit × St) : cj A prim b r = some x ↔ ∃ n, iterS (fun l s' => (findL b l).map fun rest => evC (evF A prim n) n n rest s') n r = some x :=
  lim_iff (fun _ _ h => iterS_mono (fun l s r hr => cj_run_mono A prim b h h l s r hr) h (Le.refl r)) x

theorem cj_none (b : ACode) : cj A prim b none = none := by
  refine opt_ext fun x => ?_
  rw [cj_iff]
  constructor
  · rintro ⟨n, hn⟩
    cases n <;> cases hn
  · intro h; cases h

theorem cj_some (b : ACode) (e : AExit) (s : St) : cj A prim b (some (e, s)) = match e with
    | .goto l => (match findL b l with | some rest => cj A prim b (cv A prim rest s) | none => none)
    | e => some (e, s) := by
  refine opt_ext fun x => ?_
  rw [cj_iff]
  cases e with
  | goto l =>
    constructor
    · rintro ⟨n, hn⟩
      cases n with
      | zero => cases hn
      | succ n =>
        unfold iterS at hn
        simp only [Option.bind_some] at hn
        cases hf : findL b l with
        | none => simp [hf] at hn
        | some rest =>
          simp only [hf, Option.map_some, Option.bind_some] at hn
          simp only [hf]
          show cj A prim b (cv A prim rest s) = some x
          refine (cj_iff A prim b _ x).2 ⟨n + 1, ?_⟩
          exact iterS_mono (fun l s r hr => ⟨r, hr, Le.refl r⟩) (Nat.le_succ n) (evC_le_cv A prim rest s) x hn
    · intro h
      replace h : (match findL b l with | some rest => cj A prim b (cv A prim rest s) | none => none) = some x := h
      cases hf : findL b l with
      | none => simp [hf] at h
      | some rest =>
        simp only [hf] at h
        obtain ⟨k, hk⟩ := (cj_iff A prim b _ x).1 h
        cases hr : cv A prim rest s with
        | none =>
          rw [hr] at hk
          cases k <;> cases hk
        | some y =>
          obtain ⟨n, hn⟩ := (cv_iff A prim rest s y).1 hr
          refine ⟨max n k + 1, ?_⟩
          unfold iterS
          simp only [Option.bind_some, hf, Option.map_some]
          rw [hr] at hk
          rw [evC_mono (evF_mono A prim (k := max n k + 1) (by omega)) (by omega) (by omega) rest s _ hn]
          exact iterS_mono (fun l s r hr => cj_run_mono A prim b (by omega) (by omega) l s r hr) (by omega) (Le.refl _) x hk
  | _ =>
    constructor
    · rintro ⟨n, hn⟩
      cases n with
      | zero => cases hn
      | succ n => exact hn
    · intro h; exact ⟨1, h⟩

theorem cv_scope (b : ACode) (s : St) : cv A prim (.scope b) s = cj A prim b (cv A prim b s) := by
  refine opt_ext fun x => ?_
  rw [cv_iff, cj_iff]
  constructor
  · rintro ⟨n, hn⟩
    cases n with
    | zero => cases hn
    | succ n =>
      unfold evC at hn
      exact ⟨n + 1, iterS_mono (fun l s r hr => cj_run_mono A prim b (by omega) (by omega) l s r hr) (Nat.le_refl _) (evC_le_cv A prim b s) x hn⟩
  · rintro ⟨n, hn⟩
    cases hr : cv A prim b s with
    | none => rw [hr] at hn; cases n <;> cases hn
    | some y =>
      obtain ⟨k, hk⟩ := (cv_iff A prim b s y).1 hr
      refine ⟨max n k + 1, ?_⟩
      unfold evC
      rw [hr] at hn
      refine iterS_mono (fun l s r hr => cj_run_mono A prim b (by omega) (by omega) l s r hr) (by omega) (fun z hz => ?_) x hn
      cases hz
      exact evC_mono (evF_mono A prim (by omega)) (by omega) (by omega) b s _ hk

theorem ev_prim {f : Nat} (h : A f = none) (xs : List V) (m : Mem) : ev A prim f xs m = prim f xs m := by
  refine opt_ext fun x => ?_
  rw [ev_iff]
  constructor
  · rintro ⟨n, hn⟩
    cases n with
    | zero => cases hn
    | succ n => unfold evF at hn; rw [h] at hn; exact hn
  · intro hx
    exact ⟨1, by unfold evF; rw [h]; exact hx⟩

theorem ev_fn {f : Nat} {af : AFunc} (h : A f = some af) (xs : List V) (m : Mem) (hn : xs.length = af.nparams) :
    ev A prim f xs m = (cv A prim af.body { env := initEnv 0 xs, mem := [] :: m }).bind (finish af) := by
  refine opt_ext fun x => ?_
  rw [ev_iff, bind_some_iff]
  constructor
  · rintro ⟨n, hx⟩
    cases n with
    | zero => cases hx
    | succ n =>
      unfold evF at hx
      simp only [h, hn, if_true] at hx
      obtain ⟨y, h1, h2⟩ := bind_some_iff.1 hx
      exact ⟨y, evC_le_cv A prim _ _ _ h1, h2⟩
  · rintro ⟨y, h1, h2⟩
    obtain ⟨n, hy⟩ := (cv_iff A prim _ _ _).1 h1
    refine ⟨n + 1, ?_⟩
    unfold evF
    simp only [h, hn, if_true, hy, Option.bind_some]
    exact h2

end Go.Proofs.YtpmpofcokkgfdaaGreatDoor.Ev
