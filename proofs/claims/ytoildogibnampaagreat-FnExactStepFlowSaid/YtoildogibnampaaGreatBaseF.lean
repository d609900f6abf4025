/- A walk by plain functions, part 6: that what a region of operations does is what a plain function says, for any program whose types are at hand. -/
import Derived.Test.YtoildogibnampaaGreatBaseE
import Derived.Laws.Sem
import Derived.Laws.Cover3
import Derived.ProofKit

/- A loop's head: the state is turned to its shape. -/
namespace Net
open Go
set_option linter.unusedVariables false
set_option linter.unusedSectionVars false

section
variable {c : Cx} {σ0 : St} {a : Act} {w : World} {X : List Nat} {F0 : Nat → List Nat} {G : Nat → Value} (hs : Sim c σ0 a w X F0 G)
include hs

theorem Laid.nodup {keep : List Nat} {σ : St} {F : Nat → List Nat} (h : Laid c σ0 (val c a G) w F0 G keep σ F) (s : Nat) : (F s).Nodup := by
  rcases h.fp s with e | e
  · rw [e]; exact hs.nodup s
  · rw [e]; exact List.nodup_nil

/-- One slot more. -/
theorem Laid.more {keep : List Nat} {σ : St} {F : Nat → List Nat} (h : Laid c σ0 (val c a G) w F0 G keep σ F) {n : Nat} (hn : (σ n).1 = .dead) (hnk : n ∉ keep) {av : AV} {f1 : List Nat} (hf : f1 = F0 n ∨ f1 = []) (hsv : SlotV c σ (val c a G) w F G (val c a G n) f1 av)
    (ho : ∀ t x g, av = .own t x g → f1 = F0 n ∧ ∃ g0, (σ0 n).1 = .own t x g0) (hb : ∀ t x g, av = .box t x g → f1 = F0 n ∧ ∃ g0, (σ0 n).1 = .box t x g0) (hd : av = .dead → f1 = []) :
    ∃ F', Laid c σ0 (val c a G) w F0 G keep (σ.lay n av) F' :=
  ⟨_, h.step hn hnk hf (lay_stable hn (h.gone n hnk hn) hsv) ho hb hd⟩

theorem Laid.free {keep : List Nat} {σ : St} {F : Nat → List Nat} (h : Laid c σ0 (val c a G) w F0 G keep σ F) {n : Nat} (hn : (σ n).1 = .dead) (hnk : n ∉ keep) {av : AV} (hfr : av.free = true) (hsv : SlotV c σ (val c a G) w F G (val c a G n) [] av) :
    ∃ F', Laid c σ0 (val c a G) w F0 G keep (σ.lay n av) F' :=
  Laid.more hs h hn hnk (.inr rfl) hsv (by rintro t x g rfl; cases hfr) (by rintro t x g rfl; cases hfr) (fun _ => rfl)

theorem layAl_ok {keep : List Nat} {σ : St} {F : Nat → List Nat} (h : Laid c σ0 (val c a G) w F0 G keep σ F) {n s m : Nat} {q : List Nat} {t0 : Ty} {x0 : El t0} {up0 : Up} (h0 : (σ0 n).1 = .al t0 x0 s m up0 true) (hm : m = (σ0 s).2) (hst : stepsOf up0 = q.map .f) :
    (layAl (σ s) s q).free = true ∧ SlotV c σ (val c a G) w F G (val c a G n) [] (layAl (σ s) s q) := by
  have hsl := hs.slot n
  rw [h0] at hsl
  obtain ⟨cs, tr, xr, gr, A, rc, fr, k1, k2, k3, k4⟩ := hsl.2 hm
  obtain ⟨k5, A', k6⟩ := k4 rfl
  have main : ∀ (t : Ty) (x : El t) (g : Tag), ((σ s).1 = .own t x g ∨ (σ s).1 = .box t x g) → ∀ av, av = (match walkF t x q [] with | some (⟨u, y⟩, up) => (match aliveT u (tagAt g (stepsOf up)) with | true => AV.al u y s (σ s).2 up true | false => .dead) | none => .dead) → av.free = true ∧ SlotV c σ (val c a G) w F G (val c a G n) [] av := by
    intro t x g hav av hv
    cases hw : walkF t x q [] with
    | none => simp only [hw] at hv; subst hv; exact ⟨rfl, trivial⟩
    | some z =>
      obtain ⟨⟨u, y⟩, up⟩ := z
      simp only [hw] at hv
      obtain ⟨e, f, r1, r2, r3⟩ := h.alias hs (fr := []) k2 k5 hst k6 hav hw
      cases hal : aliveT u (tagAt g (stepsOf up)) with
      | false => simp only [hal] at hv; subst hv; exact ⟨rfl, trivial⟩
      | true =>
        simp only [hal] at hv
        subst hv
        simp only [Sigma.mk.injEq] at e
        obtain ⟨rfl, e⟩ := e
        have e := eq_of_heq e
        subst e
        obtain ⟨m1, _, _, _, _, _⟩ := AlF_of_path r1 (Laid.nodup hs h s) (fun k b hb => .inl (hs.I_ip k b hb)) (fun b hb => .inr (Root_sub r1 b hb)) r2 r3 hal
        exact ⟨rfl, Nat.le_refl _, fun _ => ⟨cs, t, x, g, A, rc, f, k1, r1, m1, fun _ => ⟨r2, A', r3⟩⟩⟩
  rcases hg : σ s with ⟨avs, vs⟩
  rw [hg] at main
  unfold layAl
  cases avs with
  | own t x g => exact main t x g (.inl rfl) _ rfl
  | box t x g => exact main t x g (.inr rfl) _ rfl
  | _ => exact ⟨rfl, trivial⟩

theorem layPtr_ok {keep : List Nat} {σ : St} {F : Nat → List Nat} (h : Laid c σ0 (val c a G) w F0 G keep σ F) {n s m : Nat} {q : List Nat} {t0 : Ty} {x0 : El t0} {up0 : Up} (h0 : (σ0 n).1 = .ptr t0 x0 s m up0) (hm : m = (σ0 s).2) (hst : stepsOf up0 = q.map .f) :
    (layPtr (σ s) s q).free = true ∧ SlotV c σ (val c a G) w F G (val c a G n) [] (layPtr (σ s) s q) := by
  have hsl := hs.slot n
  rw [h0] at hsl
  obtain ⟨ad, cs, tr, xr, gr, A, rc, fr, k1, k2, k5, k6⟩ := hsl.2 hm
  have main : ∀ (t : Ty) (x : El t) (g : Tag), ((σ s).1 = .own t x g ∨ (σ s).1 = .box t x g) → ∀ av, av = (match walkF t x q [] with | some (⟨u, y⟩, up) => AV.ptr u y s (σ s).2 up | none => .dead) → av.free = true ∧ SlotV c σ (val c a G) w F G (val c a G n) [] av := by
    intro t x g hav av hv
    cases hw : walkF t x q [] with
    | none => simp only [hw] at hv; subst hv; exact ⟨rfl, trivial⟩
    | some z =>
      obtain ⟨⟨u, y⟩, up⟩ := z
      simp only [hw] at hv
      obtain ⟨e, f, r1, r2, r3⟩ := h.alias hs (fr := []) k2 k5 hst k6 hav hw
      subst hv
      simp only [Sigma.mk.injEq] at e
      obtain ⟨rfl, e⟩ := e
      have e := eq_of_heq e
      subst e
      exact ⟨rfl, Nat.le_refl _, fun _ => ⟨ad, cs, t, x, g, A, rc, f, k1, r1, r2, r3⟩⟩
  rcases hg : σ s with ⟨avs, vs⟩
  rw [hg] at main
  unfold layPtr
  cases avs with
  | own t x g => exact main t x g (.inl rfl) _ rfl
  | box t x g => exact main t x g (.inr rfl) _ rfl
  | _ => exact ⟨rfl, trivial⟩

/-- A place whose tag says that nobody changes it. -/
theorem immAt_ok {n r m : Nat} {u : Ty} {x : El u} {up : Up} {ex b : Bool} (h0 : (σ0 n).1 = .al u x r m up ex) (hm : m = (σ0 r).2) (hi : immAt (σ0 r).1 (stepsOf up) = .imm b) : ∃ d cs, val c a G n = mkV u cs ∧ RI w (c.I b) d u x cs := by
  have hsl := hs.slot n
  rw [h0] at hsl
  obtain ⟨cs, tr, xr, gr, A, rc, fr, k1, k2, k3, k4⟩ := hsl.2 hm
  have : tagAt gr (stepsOf up) = .imm b := by
    generalize (σ0 r).1 = av at k2 hi
    generalize F0 r = f at k2
    cases k2 <;> exact hi
  obtain ⟨d, hd⟩ := k3.imm b this
  exact ⟨d, cs, k1, hd⟩

theorem putSh_ok : ∀ (l : List (Nat × Sh)) (x : ShL l) (σ : St) (F : Nat → List Nat) (seen : List Nat) {keep : List Nat}, (∀ n, n ∈ keep → n ∈ seen) → takeSh σ0 l = some x → distinct l seen = true → (∀ n, n ∉ seen → (σ n).1 = .dead) → Laid c σ0 (val c a G) w F0 G keep σ F → ∃ F', Laid c σ0 (val c a G) w F0 G keep (putSh l x σ) F' := by
  intro l
  induction l with
  | nil => intro x σ F seen keep _ _ _ _ h; exact ⟨F, h⟩
  | cons p l ih =>
    obtain ⟨n, sh⟩ := p
    intro x σ F seen keep hkeep ht hd hde h
    simp only [distinct] at hd
    cases hm : memN n seen with
    | true => simp [hm] at hd
    | false =>
      simp only [hm] at hd
      have hns : n ∉ seen := fun hh => by rw [memN_iff.2 hh] at hm; cases hm
      have hn := hde n hns
      have hnk : n ∉ keep := fun hh => hns (hkeep n hh)
      have go : ∀ (av : AV) (y : ShL l), takeSh σ0 l = some y → (∃ F', Laid c σ0 (val c a G) w F0 G keep (σ.lay n av) F') → ∃ F', Laid c σ0 (val c a G) w F0 G keep (putSh l y (σ.lay n av)) F' := by
        rintro av y hy ⟨F', h'⟩
        exact ih y _ F' (n :: seen) (fun k hk => by simp [hkeep k hk]) hy hd (fun k hk => by
          simp only [List.mem_cons, not_or] at hk
          rw [lay_other _ _ _ _ hk.1]; exact hde k hk.2) h'
      have hsl := hs.slot n
      cases sh with
      | own t g =>
        simp only [takeSh] at ht
        generalize hav : (σ0 n).1 = av0 at ht hsl
        cases av0 with
        | own u y g0 =>
          simp only at ht
          cases h1 : castE u t y with
          | none => simp [h1] at ht
          | some y' =>
            cases h2 : tagIs t g0 g with
            | false => simp [h1, h2] at ht
            | true =>
              cases h3 : takeSh σ0 l with
              | none => simp [h1, h2, h3] at ht
              | some z =>
                simp only [h1, h2, h3, Option.some.injEq] at ht
                subst ht
                obtain ⟨e, hy⟩ := cast_some h1
                subst e
                have hy : y' = y := hy
                subst hy
                obtain ⟨cs, k1, k2⟩ := hsl
                exact go _ z h3 (Laid.more hs h hn hnk (.inl rfl) (f1 := F0 n) ⟨cs, k1, tagIs_TR h2 k2⟩ (by rintro t x g e; cases e; exact ⟨rfl, g0, hav⟩) (by rintro t x g e; cases e) (by rintro e; cases e))
        | _ => simp at ht
      | vw t =>
        simp only [takeSh] at ht
        generalize hav : (σ0 n).1 = av0 at ht hsl
        cases av0 with
        | vw u y q =>
          cases q with
          | ip =>
            simp only at ht
            cases h1 : castE u t y with
            | none => simp [h1] at ht
            | some y' =>
              cases h3 : takeSh σ0 l with
              | none => simp [h1, h3] at ht
              | some z =>
                simp only [h1, h3, Option.some.injEq] at ht
                subst ht
                obtain ⟨e, hy⟩ := cast_some h1
                subst e
                have hy : y' = y := hy
                subst hy
                exact go _ z h3 (Laid.free hs h hn hnk rfl ⟨trivial, fun _ => hsl.2 trivial⟩)
          | _ => simp at ht
        | al u y r m up ex =>
          simp only at ht
          cases h4 : Nat.beq m (σ0 r).2 with
          | false => simp [h4] at ht
          | true =>
            generalize h5 : immAt (σ0 r).1 (stepsOf up) = tg at ht
            cases tg with
            | imm b =>
              cases b with
              | true => simp [h4] at ht
              | false =>
                cases h1 : castE u t y with
                | none => simp [h4, h1] at ht
                | some y' =>
                  cases h3 : takeSh σ0 l with
                  | none => simp [h4, h1, h3] at ht
                  | some z =>
                    simp only [h4, h1, h3, Option.some.injEq] at ht
                    subst ht
                    obtain ⟨e, hy⟩ := cast_some h1
                    subst e
                    have hy : y' = y := hy
                    subst hy
                    exact go _ z h3 (Laid.free hs h hn hnk rfl ⟨trivial, fun _ => immAt_ok hs hav (Nat.eq_of_beq_eq_true h4) h5⟩)
            | _ => simp [h4] at ht
        | _ => simp at ht
      | vk t =>
        simp only [takeSh] at ht
        generalize hav : (σ0 n).1 = av0 at ht hsl
        cases av0 with
        | vw u y q =>
          cases q with
          | k =>
            simp only at ht
            cases h1 : castE u t y with
            | none => simp [h1] at ht
            | some y' =>
              cases h3 : takeSh σ0 l with
              | none => simp [h1, h3] at ht
              | some z =>
                simp only [h1, h3, Option.some.injEq] at ht
                subst ht
                obtain ⟨e, hy⟩ := cast_some h1
                subst e
                have hy : y' = y := hy
                subst hy
                exact go _ z h3 (Laid.free hs h hn hnk rfl ⟨trivial, fun _ => hsl.2 trivial⟩)
          | _ => simp at ht
        | al u y r m up ex =>
          simp only at ht
          cases h4 : Nat.beq m (σ0 r).2 with
          | false => simp [h4] at ht
          | true =>
            generalize h5 : immAt (σ0 r).1 (stepsOf up) = tg at ht
            cases tg with
            | imm b =>
              cases b with
              | false => simp [h4] at ht
              | true =>
                cases h1 : castE u t y with
                | none => simp [h4, h1] at ht
                | some y' =>
                  cases h3 : takeSh σ0 l with
                  | none => simp [h4, h1, h3] at ht
                  | some z =>
                    simp only [h4, h1, h3, Option.some.injEq] at ht
                    subst ht
                    obtain ⟨e, hy⟩ := cast_some h1
                    subst e
                    have hy : y' = y := hy
                    subst hy
                    exact go _ z h3 (Laid.free hs h hn hnk rfl ⟨trivial, fun _ => immAt_ok hs hav (Nat.eq_of_beq_eq_true h4) h5⟩)
            | _ => simp [h4] at ht
        | _ => simp at ht
      | pv t =>
        simp only [takeSh] at ht
        generalize hav : (σ0 n).1 = av0 at ht hsl
        cases av0 with
        | pvw u y q =>
          cases q with
          | ip =>
            simp only at ht
            cases h1 : castE u t y with
            | none => simp [h1] at ht
            | some y' =>
              cases h3 : takeSh σ0 l with
              | none => simp [h1, h3] at ht
              | some z =>
                simp only [h1, h3, Option.some.injEq] at ht
                subst ht
                obtain ⟨e, hy⟩ := cast_some h1
                subst e
                have hy : y' = y := hy
                subst hy
                exact go _ z h3 (Laid.free hs h hn hnk rfl ⟨trivial, fun _ => hsl.2 trivial⟩)
          | _ => simp at ht
        | _ => simp at ht
      | box t g =>
        simp only [takeSh] at ht
        generalize hav : (σ0 n).1 = av0 at ht hsl
        cases av0 with
        | box u y g0 =>
          simp only at ht
          cases h1 : castE u t y with
          | none => simp [h1] at ht
          | some y' =>
            cases h2 : tagIs t g0 g with
            | false => simp [h1, h2] at ht
            | true =>
              cases h3 : takeSh σ0 l with
              | none => simp [h1, h2, h3] at ht
              | some z =>
                simp only [h1, h2, h3, Option.some.injEq] at ht
                subst ht
                obtain ⟨e, hy⟩ := cast_some h1
                subst e
                have hy : y' = y := hy
                subst hy
                obtain ⟨b, cs, f', k1, k2, k3, k4⟩ := hsl
                exact go _ z h3 (Laid.more hs h hn hnk (.inl rfl) (f1 := F0 n) ⟨b, cs, f', k1, k2, tagIs_TR h2 k3, k4⟩ (by rintro t x g e; cases e) (by rintro t x g e; cases e; exact ⟨rfl, g0, hav⟩) (by rintro e; cases e))
        | _ => simp at ht
      | clo as r =>
        simp only [takeSh] at ht
        generalize hav : (σ0 n).1 = av0 at ht hsl
        cases av0 with
        | clo as' r' Fn q =>
          cases q with
          | cons _ _ => simp at ht
          | nil =>
            simp only at ht
            cases hd1 : decEq as' as with
            | isFalse _ => simp [hd1] at ht
            | isTrue e1 =>
              cases hd2 : decEq r' r with
              | isFalse _ => simp [hd1, hd2] at ht
              | isTrue e2 =>
                cases h3 : takeSh σ0 l with
                | none => simp [hd1, hd2, h3] at ht
                | some z =>
                  simp only [hd1, hd2, h3, Option.some.injEq] at ht
                  subst e1
                  subst e2
                  subst ht
                  obtain ⟨m1, m2⟩ := hsl.2 (by simp)
                  exact go _ z h3 (Laid.free hs h hn hnk rfl ⟨by simp, fun _ => ⟨m1, CloOK_same (fun b hb => hb.imp id (fun ⟨z, hz, _⟩ => by simp at hz)) (fun _ _ => rfl) (Nat.le_refl _) m2⟩⟩)
        | _ => simp at ht
      | al s q =>
        simp only [takeSh] at ht
        generalize hav : (σ0 n).1 = av0 at ht
        cases av0 with
        | al u y r m up ex =>
          cases ex with
          | false => simp at ht
          | true =>
            simp only at ht
            cases h4 : Nat.beq r s && Nat.beq m (σ0 s).2 && stepsEq (stepsOf up) q with
            | false => simp [h4] at ht
            | true =>
              simp only [h4] at ht
              obtain ⟨e1, e2, e3⟩ := chk3 h4
              have e1 := Nat.eq_of_beq_eq_true e1
              subst e1
              obtain ⟨k1, k2⟩ := layAl_ok hs h hav (Nat.eq_of_beq_eq_true e2) (stepsEq_iff _ _ e3)
              exact go _ x ht (Laid.free hs h hn hnk k1 k2)
        | _ => simp at ht
      | ptr s q =>
        simp only [takeSh] at ht
        generalize hav : (σ0 n).1 = av0 at ht
        cases av0 with
        | ptr u y r m up =>
          simp only at ht
          cases h4 : Nat.beq r s && Nat.beq m (σ0 s).2 && stepsEq (stepsOf up) q with
          | false => simp [h4] at ht
          | true =>
            simp only [h4] at ht
            obtain ⟨e1, e2, e3⟩ := chk3 h4
            have e1 := Nat.eq_of_beq_eq_true e1
            subst e1
            obtain ⟨k1, k2⟩ := layPtr_ok hs h hav (Nat.eq_of_beq_eq_true e2) (stepsEq_iff _ _ e3)
            exact go _ x ht (Laid.free hs h hn hnk k1 k2)
        | _ => simp at ht

theorem shape_ok {keep : List Nat} {l : List (Nat × Sh)} {x : ShL l} {σr : St} (ht : takeSh σ0 l = some x) (hd : distinct l keep = true) (hk : ∀ i ∈ keep, σ0 i = σr i) (hp : ∀ i ∈ keep, pastOK σr (σr i).1) : ∃ F', Sim c (putSh l x (keepSt keep σr)) a w [] F' G := by
  obtain ⟨F', h⟩ := putSh_ok hs l x (keepSt keep σr) _ keep (keep := keep) (fun _ h => h) ht hd (fun n hn => by rw [keepSt_out hn]) (Laid.start hs hk hp)
  exact ⟨F', h.sim hs⟩
end

theorem putSh_keep : ∀ (l : List (Nat × Sh)) (x : ShL l) (σ : St) (seen : List Nat), distinct l seen = true → (∀ i ∈ seen, putSh l x σ i = σ i) ∧ ∀ i, (putSh l x σ i).2 = (σ i).2
  | [], x, σ, seen, _ => ⟨fun _ _ => rfl, fun _ => rfl⟩
  | (n, sh) :: l, x, σ, seen, hd => by
    simp only [distinct] at hd
    cases hm : memN n seen with
    | true => simp [hm] at hd
    | false =>
      simp only [hm] at hd
      have go : ∀ (av : AV) (y : ShL l), (∀ i ∈ seen, putSh l y (σ.lay n av) i = σ i) ∧ ∀ i, (putSh l y (σ.lay n av) i).2 = (σ i).2 := by
        intro av y
        obtain ⟨h1, h2⟩ := putSh_keep l y (σ.lay n av) (n :: seen) hd
        constructor
        · intro i hi
          rw [h1 i (by simp [hi]), lay_other]
          rintro rfl
          rw [memN_iff.2 hi] at hm; cases hm
        · intro i
          rw [h2 i]
          by_cases e : i = n
          · subst e; rw [lay_same]
          · rw [lay_other _ _ _ _ e]
      cases sh <;> exact go _ _
theorem head_vmono {keep : List Nat} {l : List (Nat × Sh)} {x : ShL l} {σ : St} (hd : distinct l keep = true) : VMono σ (putSh l x (keepSt keep σ)) ∧ ∀ i ∈ keep, putSh l x (keepSt keep σ) i = σ i := by
  obtain ⟨h1, h2⟩ := putSh_keep l x (keepSt keep σ) keep hd
  have h3 : ∀ i ∈ keep, putSh l x (keepSt keep σ) i = σ i := fun i hi => by rw [h1 i hi, keepSt_in hi]
  refine ⟨fun i => ?_, h3⟩
  by_cases e : i ∈ keep
  · rw [h3 i e]; exact ⟨Nat.le_refl _, fun _ => rfl⟩
  · have := h2 i
    rw [keepSt_out e] at this
    simp only at this
    exact ⟨by omega, fun h => by omega⟩
theorem keptB_iff : ∀ (l : List Nat) (σ τ : St), keptB l σ τ = true → ∀ s ∈ l, (σ s).2 = (τ s).2
  | [], _, _, _, s, hs => by simp at hs
  | n :: l, σ, τ, h, s, hs => by
    simp only [keptB, Bool.and_eq_true] at h
    rcases List.mem_cons.1 hs with rfl | hs
    · exact Nat.eq_of_beq_eq_true h.1
    · exact keptB_iff l σ τ h.2 s hs
/-- What is taken at a place where roads meet. -/
theorem take_ok {c : Cx} {σr σh σ : St} {a : Act} {w : World} {F : Nat → List Nat} {G : Nat → Value} {keep : List Nat} {l : List (Nat × Sh)} {x : ShL l} (hs : Sim c σ a w [] F G) (ht : takeK' keep l σr σ = some x) (hd : distinct l keep = true)
    (hh : ∀ i ∈ keep, σh i = σr i) (hv : VMono σh σ) (hp : ∀ i ∈ keep, pastOK σr (σr i).1) : ∃ F', Sim c (putSh l x (keepSt keep σr)) a w [] F' G := by
  unfold takeK' at ht
  cases hk : keptB keep σr σ with
  | false => simp [hk] at ht
  | true =>
    simp only [hk] at ht
    refine shape_ok hs ht hd (fun i hi => ?_) hp
    have := keptB_iff _ _ _ hk i hi
    rw [(hv i).2 (by rw [hh i hi]; exact this.symm), hh i hi]
end Net

/- Code: blocks, branches, loops. -/
namespace Net
open Go
set_option linter.unusedVariables false
set_option linter.unusedSectionVars false

theorem iter_some {S X : Type} {f : S → Option (S ⊕ X)} {s : S} {e : X} (h : iter f s = some e) : ∃ n, iterN f n s = some e := by
  unfold iter at h
  split at h
  · rename_i hx
    simp only [Option.some.injEq] at h
    exact ⟨_, h ▸ Classical.choose_spec (Classical.choose_spec hx)⟩
  · cases h
theorem iterN_mono {S X : Type} {f : S → Option (S ⊕ X)} {e : X} : ∀ (n : Nat) (s : S), iterN f n s = some e → iterN f (n + 1) s = some e
  | 0, s, h => by simp [iterN] at h
  | n + 1, s, h => by
    simp only [iterN] at h ⊢
    cases hf : f s with
    | none => simp [hf] at h
    | some z =>
      cases z with
      | inl s' => simp only [hf] at h; exact iterN_mono n s' h
      | inr x => simp only [hf] at h; exact h
theorem iterN_le {S X : Type} {f : S → Option (S ⊕ X)} {e : X} {n m : Nat} {s : S} (hnm : n ≤ m) (h : iterN f n s = some e) : iterN f m s = some e := by
  induction hnm with
  | refl => exact h
  | step _ ih => exact iterN_mono _ _ ih
theorem iter_of {S X : Type} {f : S → Option (S ⊕ X)} {s : S} {e : X} {n : Nat} (h : iterN f n s = some e) : iter f s = some e := by
  have hx : ∃ n e, iterN f n s = some e := ⟨n, e, h⟩
  unfold iter
  rw [dif_pos hx]
  have h2 := Classical.choose_spec (Classical.choose_spec hx)
  have h3 := iterN_le (Nat.le_max_left n (Classical.choose hx)) h
  have h4 := iterN_le (Nat.le_max_right n (Classical.choose hx)) h2
  rw [h3] at h4
  exact h4.symm
theorem iter_eq {S X : Type} (f : S → Option (S ⊕ X)) (s : S) : iter f s = match f s with | some (.inl s') => iter f s' | some (.inr e) => some e | none => none := by
  have key : ∀ e, iter f s = some e ↔ (match f s with | some (.inl s') => iter f s' | some (.inr e) => some e | none => none) = some e := by
    intro e
    constructor
    · intro h
      obtain ⟨n, hn⟩ := iter_some h
      cases n with
      | zero => simp [iterN] at hn
      | succ n =>
        simp only [iterN] at hn
        cases hf : f s with
        | none => simp [hf] at hn
        | some z =>
          cases z with
          | inl s' => simp only [hf] at hn; exact iter_of hn
          | inr x => simp only [hf] at hn; exact hn
    · intro h
      cases hf : f s with
      | none => simp [hf] at h
      | some z =>
        cases z with
        | inl s' =>
          simp only [hf] at h
          obtain ⟨n, hn⟩ := iter_some h
          exact iter_of (n := n + 1) (by simp only [iterN, hf]; exact hn)
        | inr x =>
          simp only [hf] at h
          exact iter_of (n := 1) (by simp only [iterN, hf]; exact h)
  cases h1 : iter f s with
  | some e => exact ((key e).1 h1).symm
  | none =>
    cases h2 : (match f s with | some (.inl s') => iter f s' | some (.inr e) => some e | none => none) with
    | none => rfl
    | some e => rw [(key e).2 h2] at h1; cases h1

/-- The least number of which something holds. -/
theorem exists_least {p : Nat → Prop} (h : ∃ n, p n) : ∃ n, p n ∧ ∀ m, p m → n ≤ m := by
  obtain ⟨n, hn⟩ := h
  induction n using Nat.strongRecOn with
  | _ n ih =>
    by_cases hx : ∃ m, m < n ∧ p m
    · obtain ⟨m, h1, h2⟩ := hx
      exact ih m h1 h2
    · exact ⟨n, hn, fun m hm => by
        rcases Nat.lt_or_ge m n with h | h
        · exact absurd ⟨m, h, hm⟩ hx
        · exact h⟩
noncomputable def least {p : Nat → Prop} (h : ∃ n, p n) : Nat := Classical.choose (exists_least h)
theorem least_spec {p : Nat → Prop} (h : ∃ n, p n) : p (least h) := (Classical.choose_spec (exists_least h)).1
theorem least_le {p : Nat → Prop} (h : ∃ n, p n) : ∀ m, p m → least h ≤ m := (Classical.choose_spec (exists_least h)).2
/-- How a piece of code may end, told by what follows it. -/
def End {c : Cx} {α O : Type} (rt : St → Option O) (σb : St) (kn : St → Option α) (ke : Nat → St → Option α) (kr : O → Option α) (r : α) : Exit → Act → World → Prop
  | .normal, a, w => ∃ σ F G, kn σ = some r ∧ VMono σb σ ∧ Sim c σ a w [] F G
  | .exit j, a, w => ∃ σ F G, ke j σ = some r ∧ VMono σb σ ∧ Sim c σ a w [] F G
  | .ret, a, w => ∃ σ F G o, rt σ = some o ∧ kr o = some r ∧ Sim c σ a w [] F G
  | _, _, _ => False
theorem End.from {c : Cx} {α O : Type} {rt : St → Option O} {σb σb' : St} {kn : St → Option α} {ke : Nat → St → Option α} {kr : O → Option α} {r : α} (hv : VMono σb σb') {e : Exit} {a : Act} {w : World} (h : End (c := c) rt σb' kn ke kr r e a w) : End (c := c) rt σb kn ke kr r e a w := by
  cases e with
  | normal => obtain ⟨σ, F, G, h1, h2, h3⟩ := h; exact ⟨σ, F, G, h1, hv.trans h2, h3⟩
  | exit j => obtain ⟨σ, F, G, h1, h2, h3⟩ := h; exact ⟨σ, F, G, h1, hv.trans h2, h3⟩
  | ret => exact h
  | _ => exact h.elim

theorem past_all {c : Cx} {σ : St} {a : Act} {w : World} {X : List Nat} {F : Nat → List Nat} {G : Nat → Value} (h : Sim c σ a w X F G) : ∀ i, pastOK σ (σ i).1 := fun i => (h.slot i).past

theorem den_ok {c : Cx} (he : EnvOK c) (ht : TyOK c.P c.E.ty) (hm : c.P.follows .mixedOrders = true) (ann : An) {O : Type} (rt : St → Option O) :
    ∀ (code : Code) {α : Type} (σ : St) (kn : St → Option α) (ke : Nat → St → Option α) (kr : O → Option α) (r : α) (a : Act) (w : World) (F : Nat → List Nat) (G : Nat → Value),
      den c.E ann rt code σ kn ke kr = some r → Sim c σ a w [] F G → code.wp c.P (End (c := c) rt σ kn ke kr r) a w := by
  intro code
  induction code with
  | skip => intro α σ kn ke kr r a w F G h hs; exact wp_skip ⟨σ, F, G, h, VMono.refl _, hs⟩
  | label l => intro α σ kn ke kr r a w F G h hs; exact wp_label ⟨σ, F, G, h, VMono.refl _, hs⟩
  | region id ops draw =>
    intro α σ kn ke kr r a w F G h hs
    exact region_ok he ht (fun σ' a' w' F' G' h1 h2 h3 => ⟨σ', F', G', h1, h2, h3⟩) hm hs (by cases draw <;> exact h)
  | seq x y ihx ihy =>
    intro α σ kn ke kr r a w F G h hs
    simp only [den] at h
    refine wp_seq ?_
    cases hj : ann.jn (Code.rid y) with
    | none =>
      simp only [hj] at h
      refine wp_mono (ihx σ (fun σ' => den c.E ann rt y σ' kn ke kr) ke kr r a w F G h hs) ?_
      rintro e a' w' hE
      cases e with
      | normal =>
        obtain ⟨σ', F', G', h1, h2, h3⟩ := hE
        exact wp_mono (ihy σ' kn ke kr r a' w' F' G' h1 h3) fun _ _ _ hE => End.from h2 hE
      | exit j => exact hE
      | ret => exact hE
      | _ => exact hE.elim
    | some J =>
      simp only [hj] at h
      cases hd : distinct J.sh J.keep with
      | false => simp [hd] at h
      | true =>
        simp only [hd] at h
        have hpast := past_all hs
        have next : ∀ (σ1 : St) (y1 : ShL J.sh) (a1 : Act) (w1 : World) (F1 : Nat → List Nat) (G1 : Nat → Value), takeK' J.keep J.sh σ σ1 = some y1 → VMono σ σ1 → Sim c σ1 a1 w1 [] F1 G1 → den c.E ann rt y (putSh J.sh y1 (keepSt J.keep σ)) kn ke kr = some r → y.wp c.P (End (c := c) rt σ kn ke kr r) a1 w1 := by
          intro σ1 y1 a1 w1 F1 G1 k1 k2 k3 k4
          obtain ⟨F2, hs2⟩ := take_ok k3 k1 hd (fun _ _ => rfl) k2 (fun i _ => hpast i)
          exact wp_mono (ihy _ kn ke kr r a1 w1 F2 G1 k4 hs2) fun _ _ _ hE => End.from (head_vmono hd).1 hE
        cases hout : J.out with
        | false =>
          simp only [hout] at h
          obtain ⟨y1, h1, h2⟩ := Option.bind_eq_some_iff.1 h
          refine wp_mono (ihx σ _ _ _ y1 a w F G h1 hs) ?_
          rintro e a' w' hE
          cases e with
          | normal =>
            obtain ⟨σ', F', G', k1, k2, k3⟩ := hE
            exact next σ' y1 a' w' F' G' k1 k2 k3 h2
          | exit j => obtain ⟨σ', F', G', k1, k2, k3⟩ := hE; simp at k1
          | ret => obtain ⟨σ', F', G', o, k0, k1, k2⟩ := hE; simp at k1
          | _ => exact hE.elim
        | true =>
          simp only [hout] at h
          obtain ⟨z, h1, h2⟩ := Option.bind_eq_some_iff.1 h
          refine wp_mono (ihx σ _ _ _ z a w F G h1 hs) ?_
          rintro e a' w' hE
          cases e with
          | normal =>
            obtain ⟨σ', F', G', k1, k2, k3⟩ := hE
            obtain ⟨y1, k4, rfl⟩ := Option.map_eq_some_iff.1 k1
            exact next σ' y1 a' w' F' G' k4 k2 k3 h2
          | exit j =>
            obtain ⟨σ', F', G', k1, k2, k3⟩ := hE
            obtain ⟨r1, k4, rfl⟩ := Option.map_eq_some_iff.1 k1
            simp only [sumE, Option.some.injEq] at h2
            subst h2
            exact ⟨σ', F', G', k4, k2, k3⟩
          | ret =>
            obtain ⟨σ', F', G', o, k0, k1, k2⟩ := hE
            obtain ⟨r1, k4, rfl⟩ := Option.map_eq_some_iff.1 k1
            simp only [sumE, Option.some.injEq] at h2
            subst h2
            exact ⟨σ', F', G', o, k0, k4, k2⟩
          | _ => exact hE.elim
  | cond o x y ihx ihy =>
    intro α σ kn ke kr r a w F G h hs
    cases o with
    | tmp t =>
      have h : (match Nat.blt t c.E.nt, (σ t).1 with
        | true, .own .bool b .own => cond b (den c.E ann rt x σ kn ke kr) (den c.E ann rt y σ kn ke kr)
        | _, _ => none) = some r := h
      cases hlt : Nat.blt t c.E.nt with
      | false => simp [hlt] at h
      | true =>
        have hsl := hs.slot t
        have hlt' : t < c.E.nt := by simpa [Nat.blt_eq] using hlt
        simp only [hlt] at h
        generalize hav : (σ t).1 = av at h hsl
        cases av with
        | own ty b g =>
          cases ty with
          | bool =>
            cases g with
            | own =>
              obtain ⟨cs, h1, h2⟩ := hsl
              have hv : a.eval (.tmp t) = .bool b := by
                rw [eval_tmp (c := c) (G := G) hlt', h1]
                simp only [TR] at h2
                obtain ⟨d, hd⟩ := h2
                cases d with
                | zero => exact hd.elim
                | succ d => obtain ⟨rfl, _⟩ := hd; rfl
              refine wp_cond (t := b) hv ?_
              cases b with
              | true => exact ihx σ kn ke kr r a w F G h hs
              | false => exact ihy σ kn ke kr r a w F G h hs
            | _ => simp at h
          | _ => simp at h
        | _ => simp at h
    | const v =>
      cases v with
      | bool b =>
        refine wp_cond (t := b) rfl ?_
        cases b with
        | true => exact ihx σ kn ke kr r a w F G h hs
        | false => exact ihy σ kn ke kr r a w F G h hs
      | _ => simp [den] at h
    | _ => simp [den] at h
  | block id x ih =>
    intro α σ kn ke kr r a w F G h hs
    refine wp_block (wp_mono (ih σ kn (fun j σ' => match Nat.beq j id with | true => kn σ' | false => ke j σ') kr r a w F G h hs) ?_)
    rintro e a' w' hE
    cases e with
    | normal => exact hE
    | exit j =>
      obtain ⟨σ', F', G', h1, h2⟩ := hE
      simp only [Exit.inBlock]
      cases hb : Nat.beq j id with
      | true =>
        have := Nat.eq_of_beq_eq_true hb
        rw [if_pos this]
        simp only [hb] at h1
        exact ⟨σ', F', G', h1, h2⟩
      | false =>
        have hne : ¬ j = id := by rintro rfl; simp at hb
        rw [if_neg hne]
        simp only [hb] at h1
        exact ⟨σ', F', G', h1, h2⟩
    | ret => exact hE
    | _ => exact hE.elim
  | loop x ih =>
    intro α σ kn ke kr r a w F G h hs
    simp only [den] at h
    cases hA : ann.lp (Code.rid x) with
    | none => simp [hA] at h
    | some A =>
      simp only [hA] at h
      cases hd : distinct A.sh A.keep && distinct A.xs A.keep with
      | false => simp [hd] at h
      | true =>
        simp only [hd] at h
        simp only [Bool.and_eq_true] at hd
        cases hx : takeSh σ A.sh with
        | none => simp [hx] at h
        | some x0 =>
          simp only [hx] at h
          obtain ⟨e, h1, h2⟩ := Option.bind_eq_some_iff.1 h
          obtain ⟨n0, hn0⟩ := iter_some h1
          generalize hf : (fun y => den c.E ann rt x (α := ShL A.sh ⊕ (ShL A.xs ⊕ α)) (putSh A.sh y (keepSt A.keep σ)) (fun σ' => (takeK' A.keep A.sh σ σ').map .inl)
              (fun j σ' => match Nat.beq j A.xid with | true => (takeK' A.keep A.xs σ σ').map fun y => .inr (.inl y) | false => none) (fun o => (kr o).map fun z => .inr (.inr z))) = f at h1 hn0
          have hpast := past_all hs
          obtain ⟨F0, hs0⟩ := shape_ok (σr := σ) hs hx hd.1 (fun _ _ => rfl) (fun i _ => hpast i)
          let R : Nat → Act → World → Prop := fun n a w => ∃ y F G, Sim c (putSh A.sh y (keepSt A.keep σ)) a w [] F G ∧ iterN f n y = some e
          let I : Act → World → Prop := fun a w => ∃ n, R n a w
          have : ∀ a w, Decidable (I a w) := fun a w => Classical.propDecidable _
          refine wp_loop I (fun a w => if h : I a w then least h else 0) ⟨n0, x0, F0, G, hs0, hn0⟩ ?_
          intro a1 w1 hI
          have hle := least_le hI
          obtain ⟨y, F1, G1, k1, k2⟩ := least_spec hI
          rw [dif_pos hI]
          obtain ⟨n, hn⟩ : ∃ n, least hI = n + 1 := by
            cases hl : least hI with
            | zero => rw [hl] at k2; simp [iterN] at k2
            | succ n => exact ⟨n, rfl⟩
          rw [hn] at k2
          simp only [iterN] at k2
          cases hfy : f y with
          | none => simp [hfy] at k2
          | some z =>
            have hden : den c.E ann rt x (α := ShL A.sh ⊕ (ShL A.xs ⊕ α)) (putSh A.sh y (keepSt A.keep σ)) (fun σ' => (takeK' A.keep A.sh σ σ').map .inl)
              (fun j σ' => match Nat.beq j A.xid with | true => (takeK' A.keep A.xs σ σ').map fun y => .inr (.inl y) | false => none) (fun o => (kr o).map fun z => .inr (.inr z)) = some z := by
              have := congrFun hf y
              rw [hfy] at this
              exact this
            obtain ⟨hv1, hv2⟩ := head_vmono (x := y) (σ := σ) hd.1
            refine wp_mono (ih _ _ _ _ z a1 w1 F1 G1 hden k1) ?_
            rintro ex a2 w2 hE
            cases ex with
            | normal =>
              obtain ⟨σ2, F2, G2, m1, m2, m3⟩ := hE
              obtain ⟨y2, m4, rfl⟩ := Option.map_eq_some_iff.1 m1
              simp only [hfy] at k2
              obtain ⟨F3, hs3⟩ := take_ok m3 m4 hd.1 hv2 m2 (fun i _ => hpast i)
              have hI2 : I a2 w2 := ⟨n, y2, F3, G2, hs3, k2⟩
              refine ⟨hI2, ?_⟩
              rw [dif_pos hI2, hn]
              have := least_le hI2 n ⟨y2, F3, G2, hs3, k2⟩
              omega
            | exit j =>
              obtain ⟨σ2, F2, G2, m1, m2, m3⟩ := hE
              cases hb : Nat.beq j A.xid with
              | false => simp [hb] at m1
              | true =>
                simp only [hb] at m1
                obtain ⟨y2, m4, rfl⟩ := Option.map_eq_some_iff.1 m1
                simp only [hfy, Option.some.injEq] at k2
                subst k2
                obtain ⟨F3, hs3⟩ := take_ok m3 m4 hd.2 hv2 m2 (fun i _ => hpast i)
                have := Nat.eq_of_beq_eq_true hb
                subst this
                exact ⟨_, F3, G2, h2, (head_vmono hd.2).1, hs3⟩
            | ret =>
              obtain ⟨σ2, F2, G2, o, m1, m2, m3⟩ := hE
              obtain ⟨r1, m4, rfl⟩ := Option.map_eq_some_iff.1 m2
              simp only [hfy, Option.some.injEq] at k2
              subst k2
              simp only [sumE, Option.some.injEq] at h2
              subst h2
              exact ⟨σ2, F2, G2, o, m1, m4, m3⟩
            | _ => exact hE.elim
  | exit id => intro α σ kn ke kr r a w F G h hs; exact wp_exit ⟨σ, F, G, h, VMono.refl _, hs⟩
  | ret =>
    intro α σ kn ke kr r a w F G h hs
    simp only [den] at h
    cases ho : rt σ with
    | none => simp [ho] at h
    | some o => simp only [ho] at h; exact wp_ret ⟨σ, F, G, o, ho, h, hs⟩
  | scope x ih => intro α σ kn ke kr r a w F G h hs; simp [den] at h
  | rangeFunc f ps x y _ _ => intro α σ kn ke kr r a w F G h hs; simp [den] at h
  | goto l => intro α σ kn ke kr r a w F G h hs; simp [den] at h
  | refuse s => intro α σ kn ke kr r a w F G h hs; simp [den] at h
end Net

/- Functions: what is handed over, what is handed back. -/
namespace Net
open Go
set_option linter.unusedVariables false
set_option linter.unusedSectionVars false

/-- What is known of the parameters' slots. -/
structure Init (c : Cx) (vl : Nat → Value) (w : World) (G : Nat → Value) (n : Nat) (σ : St) (F : Nat → List Nat) : Prop where
  sv : ∀ i, SlotV c σ vl w F G (vl i) (F i) (σ i).1
  free : ∀ i, n ≤ i → (σ i).1 = .dead ∧ F i = []

theorem init_ok {c : Cx} {vl : Nat → Value} {w : World} {G : Nat → Value} {J : Nat → Prop} (hJ : ∀ b, J b → c.Ip b) : ∀ (ps : List PK) (x : Args ps) (vs : List Value) (fp : List Nat) (n : Nat) (σ : St) (F : Nat → List Nat),
    ArgsOK c.P w J c.K ps x vs fp → (∀ j v, vs[j]? = some v → vl (n + j) = v) → fp.Nodup → Init c vl w G n σ F →
    ∃ F', (∀ i, SlotV c (initSt ps n x σ) vl w F' G (vl i) (F' i) (initSt ps n x σ i).1) ∧ (∀ i, i < n → F' i = F i) ∧ (∀ i, n ≤ i → (F' i).Nodup ∧ ∀ b ∈ F' i, b ∈ fp) ∧ (∀ i j, n ≤ i → n ≤ j → i ≠ j → ∀ b ∈ F' i, b ∉ F' j)
  | [], x, vs, fp, n, σ, F, hA, hv, hn, h => ⟨F, h.sv, fun _ _ => rfl, fun i hi => by rw [(h.free i hi).2]; exact ⟨List.nodup_nil, by simp⟩, fun i j hi hj _ b hb => by rw [(h.free i hi).2] at hb; simp at hb⟩
  | p :: ps, x, vs, fp, n, σ, F, hA, hv, hn, h => by
    have key : ∀ (av : AV) (y : Args ps) (v : Value) (vs' : List Value) (f fp' : List Nat), ArgsOK c.P w J c.K ps y vs' fp' → vs = v :: vs' → fp = f ++ fp' → SlotV c σ vl w F G v f av →
        ∃ F', (∀ i, SlotV c (initSt ps (n + 1) y (σ.lay n av)) vl w F' G (vl i) (F' i) (initSt ps (n + 1) y (σ.lay n av) i).1) ∧ (∀ i, i < n → F' i = F i) ∧ (∀ i, n ≤ i → (F' i).Nodup ∧ ∀ b ∈ F' i, b ∈ fp) ∧ (∀ i j, n ≤ i → n ≤ j → i ≠ j → ∀ b ∈ F' i, b ∉ F' j) := by
      rintro av y v vs' f fp' hA2 rfl rfl hsv
      obtain ⟨hσn, hFn⟩ := h.free n (Nat.le_refl n)
      have hvn : vl n = v := hv 0 v rfl
      have hn' := List.nodup_append.1 hn
      obtain ⟨F', k1, k2, k3, k4⟩ := init_ok hJ ps y vs' fp' (n + 1) (σ.lay n av) (fun i => if i = n then f else F i) hA2 (fun j u hj => by
        have := hv (j + 1) u (by simpa using hj)
        rwa [show n + (j + 1) = n + 1 + j by omega] at this) hn'.2.1 ⟨fun i => by
          by_cases e : i = n
          · subst e
            rw [lay_same, if_pos rfl, hvn]
            exact lay_stable hσn hFn hsv
          · rw [lay_other _ _ _ _ e, if_neg e]
            exact lay_stable hσn hFn (h.sv i), fun i hi => by
          have e : i ≠ n := by omega
          rw [lay_other _ _ _ _ e]
          simp only [if_neg e]
          exact h.free i (by omega)⟩
      have hFn' : F' n = f := by rw [k2 n (Nat.lt_succ_self n)]; exact if_pos rfl
      refine ⟨F', k1, fun i hi => ?_, fun i hi => ?_, fun i j hi hj hij b hb => ?_⟩
      · rw [k2 i (by omega)]; exact if_neg (by omega)
      · by_cases e : i = n
        · subst e
          rw [hFn']
          exact ⟨hn'.1, fun b hb => by simp [hb]⟩
        · obtain ⟨m1, m2⟩ := k3 i (by omega)
          exact ⟨m1, fun b hb => by simp [m2 b hb]⟩
      · by_cases e : i = n
        · subst e
          rw [hFn'] at hb
          intro hb'
          exact hn'.2.2 b hb b ((k3 j (by omega)).2 b hb') rfl
        · by_cases e' : j = n
          · subst e'
            rw [hFn']
            intro hb'
            exact hn'.2.2 b hb' b ((k3 i (by omega)).2 b hb) rfl
          · exact k4 i j (by omega) (by omega) hij b hb
    cases p with
    | val t esc =>
      obtain ⟨d, cs, vs', rfl, h1, h2⟩ := hA
      cases hp : plainT t with
      | true =>
        have := key (.own t x.1 .own) x.2 _ vs' [] fp h2 rfl rfl ⟨cs, rfl, (PV.of_RI hp h1).TR _ _⟩
        simpa only [initSt, hp] using this
      | false =>
        cases esc with
        | true =>
          have := key (.vw t x.1 .k) x.2 _ vs' [] fp h2 rfl rfl ⟨trivial, fun _ => ⟨d, cs, rfl, h1⟩⟩
          simpa only [initSt, hp] using this
        | false =>
          have := key (.vw t x.1 .ip) x.2 _ vs' [] fp h2 rfl rfl ⟨trivial, fun _ => ⟨d, cs, rfl, RI_same hJ (fun _ _ => rfl) _ _ _ _ h1⟩⟩
          simpa only [initSt, hp] using this
    | cp t =>
      obtain ⟨d, a, cs, vs', rfl, h1, h2, h3, h4⟩ := hA
      exact key (.pvw t x.1 .ip) x.2 _ vs' [] fp h4 rfl rfl ⟨trivial, fun _ => ⟨d, a, cs, rfl, h1, hJ _ h2, RI_same hJ (fun _ _ => rfl) _ _ _ _ h3⟩⟩
    | io t g =>
      obtain ⟨b, cs, f, vs', fp', rfl, rfl, h1, h2, h3⟩ := hA
      exact key (.box t x.1 g) x.2 _ vs' (b :: f) fp' h3 rfl (by simp) ⟨b, cs, f, rfl, h1, TR_mono KI_I _ _ _ _ _ h2, rfl⟩
    | ios t =>
      obtain ⟨d, cs, f, vs', fp', rfl, rfl, h1, h2⟩ := hA
      exact key (.own t x.1 .own) x.2 _ vs' f fp' h2 rfl rfl ⟨cs, rfl, TR_of_own h1⟩
    | fn as r =>
      obtain ⟨v, vs', rfl, h1, h2, h3⟩ := hA
      exact key (.clo as r x.1 []) x.2 _ vs' [] fp h3 rfl rfl ⟨by simp, fun _ => ⟨h1, CloOK_same (fun b hb => .inl (hJ b hb)) (fun _ _ => rfl) (Nat.le_refl _) h2⟩⟩

/-- The slots whose content the caller goes on with. -/
def fixL : List PK → Nat → List Value → List (Nat × Value)
  | .io _ _ :: ps, n, v :: vs => (n, v) :: fixL ps (n + 1) vs
  | .ios _ :: ps, n, v :: vs => (n, v) :: fixL ps (n + 1) vs
  | _ :: ps, n, _ :: vs => fixL ps (n + 1) vs
  | _, _, _ => []
def ioB : List PK → Nat → List Nat → Bool
  | .io _ _ :: ps, n, l => isIo n l && ioB ps (n + 1) l
  | .ios _ :: ps, n, l => isIo n l && ioB ps (n + 1) l
  | _ :: ps, n, l => ioB ps (n + 1) l
  | [], _, _ => true
theorem fixL_ok {l : List Nat} : ∀ (ps : List PK) (n : Nat) (vs : List Value), ioB ps n l = true → ∀ z ∈ fixL ps n vs, isIo z.1 l = true ∧ n ≤ z.1 ∧ vs[z.1 - n]? = some z.2
  | [], n, vs, h, z, hz => by simp [fixL] at hz
  | p :: ps, n, [], h, z, hz => by cases p <;> simp [fixL] at hz
  | p :: ps, n, v :: vs, h, z, hz => by
    have tail : ∀ (h' : ioB ps (n + 1) l = true), z ∈ fixL ps (n + 1) vs → isIo z.1 l = true ∧ n ≤ z.1 ∧ (v :: vs)[z.1 - n]? = some z.2 := by
      intro h' hz'
      obtain ⟨k1, k2, k3⟩ := fixL_ok ps (n + 1) vs h' z hz'
      refine ⟨k1, by omega, ?_⟩
      rw [show z.1 - n = (z.1 - (n + 1)) + 1 by omega]
      simpa using k3
    cases p with
    | io t g =>
      simp only [ioB, Bool.and_eq_true] at h
      simp only [fixL, List.mem_cons] at hz
      rcases hz with rfl | hz
      · exact ⟨h.1, Nat.le_refl _, by simp⟩
      · exact tail h.2 hz
    | ios t =>
      simp only [ioB, Bool.and_eq_true] at h
      simp only [fixL, List.mem_cons] at hz
      rcases hz with rfl | hz
      · exact ⟨h.1, Nat.le_refl _, by simp⟩
      · exact tail h.2 hz
    | val t e => exact tail h hz
    | cp t => exact tail h hz
    | fn as r => exact tail h hz

theorem args_len {P : Program} {w : World} {J K : Nat → Prop} : ∀ (ps : List PK) (x : Args ps) (vs : List Value) (fp : List Nat), ArgsOK P w J K ps x vs fp → vs.length = ps.length
  | [], x, vs, fp, h => by rw [h.1]; rfl
  | .val t esc :: ps, x, vs, fp, h => by obtain ⟨d, cs, vs', rfl, h1, h2⟩ := h; simp [args_len ps _ _ _ h2]
  | .cp t :: ps, x, vs, fp, h => by obtain ⟨d, a, cs, vs', rfl, h1, h2, h3, h4⟩ := h; simp [args_len ps _ _ _ h4]
  | .io t g :: ps, x, vs, fp, h => by obtain ⟨b, cs, f, vs', fp', rfl, rfl, h1, h2, h3⟩ := h; simp [args_len ps _ _ _ h3]
  | .ios t :: ps, x, vs, fp, h => by obtain ⟨d, cs, f, vs', fp', rfl, rfl, h1, h2⟩ := h; simp [args_len ps _ _ _ h2]
  | .fn as r :: ps, x, vs, fp, h => by obtain ⟨v, vs', rfl, h1, h2, h3⟩ := h; simp [args_len ps _ _ _ h3]

/-- The written parameters' content at the end. -/
theorem ioOut_ok {c : Cx} {σ : St} {a : Act} {w : World} {X : List Nat} {F : Nat → List Nat} {G : Nat → Value} (h : Sim c σ a w X F G) : ∀ (ps : List PK) (n : Nat) (vs : List Value) (io : IoL ps), PsOK ps → vs.length = ps.length → n + ps.length ≤ c.E.nt →
    (∀ z ∈ fixL ps n vs, a.tmps.getD z.1 undef = z.2) → ioOut σ ps n = some io → ∃ fio, IoOK w c.K ps io vs fio ∧ fio.Nodup ∧ ∀ b ∈ fio, ∃ s, n ≤ s ∧ s < n + ps.length ∧ b ∈ F s
  | [], n, vs, io, hp, hl, hnt, hf, hr => ⟨[], rfl, List.nodup_nil, by simp⟩
  | p :: ps, n, [], io, hp, hl, hnt, hf, hr => by simp at hl
  | p :: ps, n, v :: vs, io, hp, hl, hnt, hf, hr => by
    have hps : PsOK ps := fun q hq => hp q (by simp [hq])
    have hl' : vs.length = ps.length := by simpa using hl
    have hnt' : n + 1 + ps.length ≤ c.E.nt := by simp only [List.length_cons] at hnt; omega
    have skip : ∀ (io : IoL ps), (∀ z ∈ fixL ps (n + 1) vs, a.tmps.getD z.1 undef = z.2) → ioOut σ ps (n + 1) = some io → ∃ fio, IoOK w c.K ps io vs fio ∧ fio.Nodup ∧ ∀ b ∈ fio, ∃ s, n + 1 ≤ s ∧ s < n + (p :: ps).length ∧ b ∈ F s := by
      intro io hf hr
      obtain ⟨fio, k1, k2, k3⟩ := ioOut_ok h ps (n + 1) vs io hps hl' hnt' hf hr
      refine ⟨fio, k1, k2, fun b hb => ?_⟩
      obtain ⟨s, m1, m2, m3⟩ := k3 b hb
      exact ⟨s, m1, by simp only [List.length_cons]; omega, m3⟩
    have weak : ∀ {fio : List Nat}, (∀ b ∈ fio, ∃ s, n + 1 ≤ s ∧ s < n + (p :: ps).length ∧ b ∈ F s) → ∀ b ∈ fio, ∃ s, n ≤ s ∧ s < n + (p :: ps).length ∧ b ∈ F s := by
      intro fio hh b hb
      obtain ⟨s, m1, m2, m3⟩ := hh b hb
      exact ⟨s, by omega, m2, m3⟩
    have hval : val c a G n = a.tmps.getD n undef := by
      simp only [val]; rw [if_pos (by simp only [List.length_cons] at hnt; omega)]
    have hsl := h.slot n
    have app : ∀ (f fio : List Nat), f.Nodup → (∀ b ∈ f, b ∈ F n) → fio.Nodup → (∀ b ∈ fio, ∃ s, n + 1 ≤ s ∧ s < n + (p :: ps).length ∧ b ∈ F s) → (f ++ fio).Nodup ∧ ∀ b ∈ f ++ fio, ∃ s, n ≤ s ∧ s < n + (p :: ps).length ∧ b ∈ F s := by
      intro f fio h1 h2 h3 h4
      refine ⟨List.nodup_append.2 ⟨h1, h3, ?_⟩, ?_⟩
      · rintro b hb b' hb' rfl
        obtain ⟨s, m1, m2, m3⟩ := h4 b hb'
        exact h.disj n s (by omega) b (h2 b hb) m3
      · intro b hb
        rcases List.mem_append.1 hb with hb | hb
        · exact ⟨n, Nat.le_refl _, by simp, h2 b hb⟩
        · exact weak h4 b hb
    cases p with
    | val t e =>
      obtain ⟨fio, k1, k2, k3⟩ := skip io hf hr
      exact ⟨fio, ⟨v, vs, rfl, k1⟩, k2, weak k3⟩
    | cp t =>
      obtain ⟨fio, k1, k2, k3⟩ := skip io hf hr
      exact ⟨fio, ⟨v, vs, rfl, k1⟩, k2, weak k3⟩
    | fn as r =>
      obtain ⟨fio, k1, k2, k3⟩ := skip io hf hr
      exact ⟨fio, ⟨v, vs, rfl, k1⟩, k2, weak k3⟩
    | io t g =>
      have hv : a.tmps.getD n undef = v := hf (n, v) (by simp [fixL])
      have hf' : ∀ z ∈ fixL ps (n + 1) vs, a.tmps.getD z.1 undef = z.2 := fun z hz => hf z (by simp [fixL, hz])
      simp only [ioOut] at hr
      generalize hav : (σ n).1 = av at hr hsl
      cases av with
      | box u x g0 =>
        simp only at hr
        cases h1 : castE u t x with
        | none => simp [h1] at hr
        | some y =>
          cases h2 : tagIs t g0 g with
          | false => simp [h1, h2] at hr
          | true =>
            cases h3 : ioOut σ ps (n + 1) with
            | none => simp [h1, h2, h3] at hr
            | some z =>
              simp only [h1, h2, h3, Option.some.injEq] at hr
              subst hr
              obtain ⟨e, hy⟩ := cast_some h1
              subst e
              have hy : y = x := hy
              subst hy
              obtain ⟨fio, k1, k2, k3⟩ := skip z hf' h3
              obtain ⟨b, cs, f', m1, m2, m3, m4⟩ := hsl
              have hg : noIp g = true := hp (.io u g) (by simp)
              have m4 : F n = b :: f' := m4
              obtain ⟨q1, q2⟩ := app (b :: f') fio (by rw [← m4]; exact h.nodup n) (fun q hq => by rw [m4]; exact hq) k2 k3
              refine ⟨(b :: f') ++ fio, ⟨b, cs, f', vs, fio, ?_, rfl, m2, tagEq_TR h2 hg m3, k1⟩, q1, q2⟩
              rw [← hv, ← hval, m1]
      | _ => simp at hr
    | ios t =>
      have hv : a.tmps.getD n undef = v := hf (n, v) (by simp [fixL])
      have hf' : ∀ z ∈ fixL ps (n + 1) vs, a.tmps.getD z.1 undef = z.2 := fun z hz => hf z (by simp [fixL, hz])
      simp only [ioOut] at hr
      generalize hav : (σ n).1 = av at hr hsl
      cases av with
      | own u x g0 =>
        simp only at hr
        cases h1 : castE u t x with
        | none => simp [h1] at hr
        | some y =>
          cases h2 : ownT t g0 with
          | false => simp [h1, h2] at hr
          | true =>
            cases h3 : ioOut σ ps (n + 1) with
            | none => simp [h1, h2, h3] at hr
            | some z =>
              simp only [h1, h2, h3, Option.some.injEq] at hr
              subst hr
              obtain ⟨e, hy⟩ := cast_some h1
              subst e
              have hy : y = x := hy
              subst hy
              obtain ⟨fio, k1, k2, k3⟩ := skip z hf' h3
              obtain ⟨cs, m1, m2⟩ := hsl
              obtain ⟨d, hd⟩ := TR_own _ _ _ _ _ h2 (ownT_alive _ _ h2) m2
              obtain ⟨q1, q2⟩ := app (F n) fio (h.nodup n) (fun q hq => hq) k2 k3
              refine ⟨F n ++ fio, ⟨d, cs, F n, vs, fio, ?_, rfl, hd, k1⟩, q1, q2⟩
              rw [← hv, ← hval, m1]
      | _ => simp at hr

/-- What an abstract value holds. -/
def AV.content : AV → Option ((t : Ty) × El t)
  | .own t x _ => some ⟨t, x⟩
  | .vw t x _ => some ⟨t, x⟩
  | .al t x _ _ _ _ => some ⟨t, x⟩
  | _ => none
theorem takeB_congr {v : AV} {s : Option Nat} {n : Nat} {k k' : (t : Ty) → El t → Tag → Mp} (hk : ∀ t x g, v.content = some ⟨t, x⟩ → k' t x g = k t x g) : takeB v s n k' = takeB v s n k := by
  cases v with
  | own t x g =>
    have : k' t x = k t x := funext fun g => hk t x g rfl
    simp only [takeB, this]
  | vw t x q =>
    have : k' t x = k t x := funext fun g => hk t x g rfl
    cases q <;> simp only [takeB, this]
  | al t x r m up ex =>
    have : k' t x = k t x := funext fun g => hk t x g rfl
    simp only [takeB, this]
  | _ => rfl

theorem Sim.xperm {c : Cx} {σ : St} {a : Act} {w : World} {X X' : List Nat} {F : Nat → List Nat} {G : Nat → Value} (h : Sim c σ a w X F G) (hp : X.Perm X') : Sim c σ a w X' F G :=
  { h with xnodup := hp.nodup_iff.1 h.xnodup, xdisj := fun s b hb hb' => h.xdisj s b hb (hp.mem_iff.2 hb'), xrng := fun b hb => h.xrng b (hp.mem_iff.2 hb) }
end Net

/- Functions: sound. -/
namespace Net
open Go
set_option linter.unusedVariables false
set_option linter.unusedSectionVars false

def resVal (tmps : Array Value) : ResultVar → Sem Value
  | .tmp t => pure (tmps.getD t undef)
  | .cell a t => do loadVar t (← asAddr (tmps.getD a undef))

theorem results_run {P : Program} {fn : Func} {tmps : Array Value} {w : World} {rv : List Value} (h : (fn.results.toList.mapM (resVal tmps)).run P w = .ok rv w) : (results fn tmps).run P w = .ok (packV rv) w := by
  have e : (results fn tmps) = (do
    let vs ← fn.results.mapM (resVal tmps)
    pure (if h : vs.size = 1 then vs[0] else .tuple vs)) := by
    unfold results
    congr 1
  rw [e, Array.mapM_eq_mapM_toList]
  simp only [Sem.run_bind, Sem.run_map, h, Result.andThen_ok]
  match rv with
  | [] => simp [packV]
  | [v] => simp [packV]
  | v1 :: v2 :: rv => simp [packV]

theorem takeK_tmp {c : Cx} (he : EnvOK c) {σ σ' : St} {a : Act} {w : World} {X : List Nat} {F : Nat → List Nat} {G : Nat → Value} (h : Sim c σ a w X F G) {t : Option Ty} {s : Nat} {k : (t : Ty) → El t → Tag → Mp} (hr : (takeK c.E t (.tmp s) k).run σ = some σ') :
    ∃ t x g σ1 F1 f cs, (σ s).1.content = some ⟨t, x⟩ ∧ (k t x g).run σ1 = some σ' ∧ Sim c σ1 a w (f ++ X) F1 G ∧ a.eval (.tmp s) = mkV t cs ∧ TR w c.I g t x cs f ∧ aliveT t g = true := by
  classical
  have e : takeK c.E t (.tmp s) k = chk (Nat.blt s c.E.nt) (.get s fun v n => takeB v (some s) n k) := rfl
  rw [e] at hr
  obtain ⟨hlt, hr⟩ := chk_run hr
  simp only [Mp.run] at hr
  have hr2 : (takeB (σ s).1 (some s) (σ s).2 fun u x g => if (σ s).1.content = some ⟨u, x⟩ then k u x g else .fail).run σ = some σ' := by
    rw [takeB_congr (k := k) (fun u x g hc => if_pos hc)]
    exact hr
  have hlt' : s < c.E.nt := by simpa [Nat.blt_eq] using hlt
  obtain ⟨u, x, g, σ1, F1, f, cs, k1, k2, _, k3, k4, k5⟩ := takeB_run (s := some s) (v := val c a G s) h (h.slot s) (by rintro s' hs; cases hs; exact ⟨rfl, rfl⟩) hr2
  by_cases hc : (σ s).1.content = some ⟨u, x⟩
  · rw [if_pos hc] at k1
    exact ⟨u, x, g, σ1, F1, f, cs, hc, k1, k2, by rw [eval_tmp (c := c) (G := G) hlt']; exact k3, k4, k5⟩
  · rw [if_neg hc] at k1
    simp [Mp.run] at k1

theorem resOut_ok {c : Cx} (he : EnvOK c) (ht : TyOK c.P c.E.ty) {a : Act} {w : World} {G : Nat → Value} {α : Type} {res : α} : ∀ (rs : List RK) (vars : List ResultVar) (σ : St) (X : List Nat) (F : Nat → List Nat) (k : St → RL rs → Option α), RsOK rs → Sim c σ a w X F G → resOut c.E rs vars σ k = some res →
    ∃ σ2 F2 fr z rv, k σ2 z = some res ∧ Sim c σ2 a w (fr ++ X) F2 G ∧ ResL w c.K rs z rv fr ∧ (vars.mapM (resVal a.tmps)).run c.P w = .ok rv w := by
  intro rs
  induction rs with
  | nil =>
    intro vars σ X F k hrs h hr
    cases vars with
    | nil => exact ⟨σ, F, [], (), [], hr, by simpa using h, ⟨rfl, rfl⟩, rfl⟩
    | cons v vs => simp [resOut] at hr
  | cons r rs ih =>
    intro vars σ X F k hrs h hr
    have hrs' : RsOK rs := fun q hq => hrs q (by simp [hq])
    have hr0 := hrs r (by simp)
    cases vars with
    | nil => cases r <;> simp [resOut] at hr
    | cons v vs =>
      have mcons : ∀ (v0 : Value) (rv : List Value), (resVal a.tmps v).run c.P w = .ok v0 w → (vs.mapM (resVal a.tmps)).run c.P w = .ok rv w → ((v :: vs).mapM (resVal a.tmps)).run c.P w = .ok (v0 :: rv) w := by
        intro v0 rv h1 h2
        simp only [List.mapM_cons, Sem.run_bind, h1, h2, Result.andThen_ok]
        rfl
      -- a part that floats, and the rest
      have cont : ∀ (t : Ty) (g : Tag) (y : El t) (cs : List Value) (f : List Nat) (σ1 : St) (F1 : Nat → List Nat) (k' : St → RL rs → Option α), noIp g = true → TR w (KI c.K) g t y cs f → Sim c σ1 a w (f ++ X) F1 G → (resVal a.tmps v).run c.P w = .ok (mkV t cs) w → resOut c.E rs vs σ1 k' = some res →
          ∃ σ2 F2 fr z rv, k' σ2 z = some res ∧ Sim c σ2 a w ((f ++ fr) ++ X) F2 G ∧ ResL w c.K rs z rv fr ∧ ((v :: vs).mapM (resVal a.tmps)).run c.P w = .ok (mkV t cs :: rv) w := by
        intro t g y cs f σ1 F1 k' _ hT hs hv hr
        obtain ⟨σ2, F2, fr, z, rv, h1, h2, h3, h4⟩ := ih vs σ1 (f ++ X) F1 k' hrs' hs hr
        refine ⟨σ2, F2, fr, z, rv, h1, h2.xperm ?_, h3, mcons _ _ hv h4⟩
        rw [← List.append_assoc]
        exact List.Perm.append_right _ List.perm_append_comm
      cases r with
      | v t g =>
        have hg : noIp g = true := hr0.1
        cases v with
        | tmp s =>
          simp only [resOut] at hr
          rw [Mp.ev_run] at hr
          obtain ⟨σ1, h1, h2⟩ := Option.bind_eq_some_iff.1 hr
          obtain ⟨u, x, g1, σ1', F1, f, cs, hc, k1, k2, k3, k4, k5⟩ := takeK_tmp he h h1
          cases hcast : castE u t x with
          | none => simp [hcast, Mp.run] at k1
          | some y =>
            obtain ⟨e, hy⟩ := cast_some hcast
            subst e
            have hy : y = x := hy
            subst hy
            have hT : σ1' = σ1 ∧ TR w (KI c.K) g u y cs f := by
              cases hp : plainT u with
              | true =>
                simp only [hcast, hp] at k1
                cases htg : tagIs u .own g with
                | false => simp [htg, Mp.run] at k1
                | true =>
                  simp only [htg, Mp.run, Option.bind_some, Option.some.injEq] at k1
                  obtain ⟨rfl, hpv⟩ := TR_plain _ _ _ _ _ hp k5 k4
                  exact ⟨k1, tagEq_TR (c := c) htg hg (hpv.TR _ _)⟩
              | false =>
                simp only [hcast, hp] at k1
                cases htg : tagIs u g1 g with
                | false => simp [htg, Mp.run] at k1
                | true =>
                  simp only [htg, Mp.run, Option.bind_some, Option.some.injEq] at k1
                  exact ⟨k1, tagEq_TR (c := c) htg hg k4⟩
            obtain ⟨rfl, hT⟩ := hT
            have hres : (resVal a.tmps (.tmp s)).run c.P w = .ok (mkV u cs) w := by
              rw [← k3]; rfl
            have fin : resOut c.E rs vs σ1' (fun σ'' z => k σ'' (y, z)) = some res → ∃ σ2 F2 fr z rv, k σ2 z = some res ∧ Sim c σ2 a w (fr ++ X) F2 G ∧ ResL w c.K (.v u g :: rs) z rv fr ∧ ((ResultVar.tmp s :: vs).mapM (resVal a.tmps)).run c.P w = .ok rv w := by
              intro hr
              obtain ⟨σ2, F2, fr, z, rv, q1, q2, q3, q4⟩ := cont u g y cs f σ1' F1 _ hg hT k2 hres hr
              exact ⟨σ2, F2, f ++ fr, (y, z), mkV u cs :: rv, q1, q2, ⟨cs, f, rv, fr, rfl, rfl, hT, q3⟩, q4⟩
            generalize hav : (σ s).1 = av at h2 hc
            cases av with
            | own u2 x2 g2 =>
              simp only [AV.content, Option.some.injEq, Sigma.mk.injEq] at hc
              obtain ⟨rfl, hc⟩ := hc
              have hc := eq_of_heq hc
              subst hc
              simp only [hcast] at h2
              exact fin h2
            | vw u2 x2 g2 =>
              simp only [AV.content, Option.some.injEq, Sigma.mk.injEq] at hc
              obtain ⟨rfl, hc⟩ := hc
              have hc := eq_of_heq hc
              subst hc
              simp only [hcast] at h2
              exact fin h2
            | al u2 x2 r2 m2 up2 ex2 =>
              simp only [AV.content, Option.some.injEq, Sigma.mk.injEq] at hc
              obtain ⟨rfl, hc⟩ := hc
              have hc := eq_of_heq hc
              subst hc
              simp only [hcast] at h2
              exact fin h2
            | _ => simp [AV.content] at hc
        | cell s T =>
          simp only [resOut] at hr
          cases hch : Nat.blt s c.E.nt && tyIs (c.E.ty T) t with
          | false => simp [hch] at hr
          | true =>
            simp only [hch] at hr
            simp only [Bool.and_eq_true, Nat.blt_eq] at hch
            have hsl := h.slot s
            generalize hav : (σ s).1 = av at hr hsl
            cases av with
            | box u x g1 =>
              simp only at hr
              cases hcast : castE u t x with
              | none => simp [hcast] at hr
              | some y =>
                cases htg : tagIs t g1 g with
                | false => simp [hcast, htg] at hr
                | true =>
                  simp only [hcast, htg] at hr
                  obtain ⟨e, hy⟩ := cast_some hcast
                  subst e
                  have hy : y = x := hy
                  subst hy
                  obtain ⟨b, cs, f', m1, m2, m3, m4⟩ := hsl
                  have m4 : F s = b :: f' := m4
                  have hnd := h.nodup s
                  rw [m4] at hnd
                  have hT := tagEq_TR (c := c) htg hg m3
                  have hs1 : Sim c (σ.set s .dead) a w (f' ++ X) (fun r => if r = s then [] else F r) G := by
                    refine h.upd s .dead (f' := []) (X' := f' ++ X) ?_ ?_ trivial
                    · simp only [List.nil_append]
                      refine List.nodup_append.2 ⟨(List.nodup_cons.1 hnd).2, h.xnodup, ?_⟩
                      rintro q hq q' hq' rfl
                      exact h.xdisj s q (by rw [m4]; simp [hq]) hq'
                    · intro q hq
                      simp only [List.nil_append, List.mem_append] at hq
                      rcases hq with hq | hq
                      · exact .inr (by rw [m4]; simp [hq])
                      · exact .inl hq
                  have hval : a.tmps.getD s undef = .pointer (some ⟨b, 0, none⟩) := by
                    rw [← m1]; simp only [val]; rw [if_pos hch.1]
                  have hres : (resVal a.tmps (.cell s T)).run c.P w = .ok (mkV u cs) w := by
                    have hl := (ht _ _ (tyIs_eq hch.2)).loadVar (isBox_loc m2) (TR_len _ _ _ _ _ m3)
                    simp only [resVal, hval, asAddr, Sem.run_bind, Sem.run_pure, Result.andThen_ok]
                    exact hl
                  obtain ⟨σ2, F2, fr, z, rv, q1, q2, q3, q4⟩ := cont u g y cs f' _ _ _ hg hT hs1 hres hr
                  exact ⟨σ2, F2, f' ++ fr, (y, z), mkV u cs :: rv, q1, q2, ⟨cs, f', rv, fr, rfl, rfl, hT, q3⟩, q4⟩
            | _ => simp at hr
      | pb t g =>
        have hg : noIp g = true := hr0.1
        cases v with
        | cell s T => simp [resOut] at hr
        | tmp s =>
          simp only [resOut] at hr
          cases hch : Nat.blt s c.E.nt with
          | false => simp [hch] at hr
          | true =>
            simp only [hch] at hr
            simp only [Nat.blt_eq] at hch
            have hsl := h.slot s
            generalize hav : (σ s).1 = av at hr hsl
            cases av with
            | box u x g1 =>
              simp only at hr
              cases hcast : castE u t x with
              | none => simp [hcast] at hr
              | some y =>
                cases htg : tagIs t g1 g with
                | false => simp [hcast, htg] at hr
                | true =>
                  simp only [hcast, htg] at hr
                  obtain ⟨e, hy⟩ := cast_some hcast
                  subst e
                  have hy : y = x := hy
                  subst hy
                  obtain ⟨b, cs, f', m1, m2, m3, m4⟩ := hsl
                  have m4 : F s = b :: f' := m4
                  have hnd := h.nodup s
                  have hT := tagEq_TR (c := c) htg hg m3
                  have hs1 : Sim c (σ.set s .dead) a w (F s ++ X) (fun r => if r = s then [] else F r) G := by
                    refine h.upd s .dead (f' := []) (X' := F s ++ X) ?_ ?_ trivial
                    · simp only [List.nil_append]
                      exact List.nodup_append.2 ⟨hnd, h.xnodup, fun q hq q' hq' => by rintro rfl; exact h.xdisj s q hq hq'⟩
                    · intro q hq
                      simp only [List.nil_append, List.mem_append] at hq
                      exact hq.symm
                  have hval : a.tmps.getD s undef = .pointer (some ⟨b, 0, none⟩) := by
                    rw [← m1]; simp only [val]; rw [if_pos hch]
                  have hres : (resVal a.tmps (.tmp s)).run c.P w = .ok (.pointer (some ⟨b, 0, none⟩)) w := by
                    simp only [resVal, hval]; rfl
                  obtain ⟨σ2, F2, fr, z, rv, h1, h2, h3, h4⟩ := ih vs _ (F s ++ X) _ _ hrs' hs1 hr
                  rw [m4] at h2
                  refine ⟨σ2, F2, (b :: f') ++ fr, (y, z), _, h1, h2.xperm ?_, ⟨b, cs, f', rv, fr, rfl, rfl, m2, hT, h3⟩, mcons _ _ hres h4⟩
                  rw [← List.append_assoc]
                  exact List.Perm.append_right _ List.perm_append_comm
            | _ => simp at hr

/-- What is asked of a function's table of callees. -/
def SgOK (P : Program) (E : Tb) : Prop := ∀ n sg, E.sg n = some sg → Sound P n sg ∧ RsOK sg.rs ∧ PsOK sg.ps

/-- A function whose body comes to what the plain one says. -/
theorem sound_of_wp {P : Program} {n : Nat} {fn : Func} {E : Tb} {ps : List PK} {rs : List RK} (hf : P.funcs[n]? = some fn) (hname : (fn.name == "runtime.NumGoroutine") = false) (hm : P.follows .mixedOrders = true)
    (hnt : fn.ntmps = E.nt) (hlen : ps.length ≤ E.nt) (hio : ioB ps 0 E.io = true) (hE : SgOK P E) (ht : TyOK P E.ty) (hps : PsOK ps) (hrs : RsOK rs)
    {O : Type} (Fn : Args ps → Option O) (out : O → IoL ps × RL rs) (mk : IoL ps × RL rs → O) (hmk : ∀ z, out (mk z) = z) {code : Code} (hb : fn.body = some code)
    (H : ∀ (c : Cx) (x : Args ps) (o : O) (a : Act) (w : World) (F : Nat → List Nat) (G : Nat → Value), c.P = P → c.E = E → EnvOK c → TyOK c.P c.E.ty → Fn x = some o → Sim c (initSt ps 0 x emptySt) a w [] F G →
      code.wp P (End (c := c) (retG E ps rs fn.results.toList) (initSt ps 0 x emptySt) (fun σ => retK (retG E ps rs fn.results.toList σ) fun z => some (mk z)) (fun _ _ => none) (fun z => some (mk z)) o) a w) : Sound P n ⟨ps, rs, O, Fn, out⟩ := by
  refine ⟨⟨fn, hf, hname, by rw [hb]; rfl⟩, ?_⟩
  intro w J K x vs fp o hKJ hJ hfpn hfps hA ho
  obtain ⟨c, hc⟩ : ∃ c : Cx, c = { P := P, E := E, w0 := w, M := fun b => b ∈ fp, K := K, fix := fixL ps 0 vs } := ⟨_, rfl⟩
  have cP : c.P = P := by rw [hc]
  have cE : c.E = E := by rw [hc]
  have cK : c.K = K := by rw [hc]
  have cw : c.w0 = w := by rw [hc]
  have cM : ∀ b, c.M b ↔ b ∈ fp := fun b => by rw [hc]
  have cfix : c.fix = fixL ps 0 vs := by rw [hc]
  have hJip : ∀ b, J b → c.Ip b := fun b hb => ⟨by rw [cw]; exact (hJ b hb).1, fun hm => (hJ b hb).2 ((cM b).1 hm)⟩
  have he : EnvOK c := by
    constructor
    · intro n sg h; rw [cE] at h; rw [cP]; exact (hE n sg h).1
    · intro n sg h; rw [cE] at h; exact (hE n sg h).2
  have ht' : TyOK c.P c.E.ty := by rw [cP, cE]; exact ht
  have hvl : vs.length = ps.length := args_len _ _ _ _ hA
  obtain ⟨a, ha⟩ : ∃ a : Act, a = { tmps := vs.toArray ++ Array.replicate (fn.ntmps - vs.toArray.size) undef, defers := [] } := ⟨_, rfl⟩
  have hsz : a.tmps.size = c.E.nt := by
    rw [ha, cE]
    simp only [Array.size_append, List.size_toArray, Array.size_replicate]
    omega
  have htmp : ∀ j v, vs[j]? = some v → a.tmps.getD j undef = v := by
    intro j v hj
    have hlt : j < vs.length := (List.getElem?_eq_some_iff.1 hj).1
    rw [ha]
    have hlt2 : j < (vs.toArray ++ Array.replicate (fn.ntmps - vs.toArray.size) undef).size := by simp; omega
    simp only [Array.getD, hlt2, dite_true]
    rw [Array.getInternal_eq_getElem, Array.getElem_append_left (by simpa using hlt)]
    have := List.getElem?_eq_some_iff.1 hj
    obtain ⟨_, hv⟩ := this
    simpa using hv
  have hvl2 : ∀ j v, vs[j]? = some v → val c a (fun _ => undef) (0 + j) = v := by
    intro j v hj
    have hlt : j < vs.length := (List.getElem?_eq_some_iff.1 hj).1
    simp only [val, Nat.zero_add]
    rw [if_pos (by rw [cE]; omega)]
    exact htmp j v hj
  obtain ⟨F, k1, _, k3, k4⟩ := init_ok (c := c) (vl := val c a (fun _ => undef)) (w := w) (G := fun _ => undef) hJip ps x vs fp 0 emptySt (fun _ => []) (by rw [cP, cK]; exact hA) hvl2 hfpn ⟨fun _ => trivial, fun _ _ => ⟨rfl, rfl⟩⟩
  have hsim : Sim c (initSt ps 0 x emptySt) a w [] F (fun _ => undef) := by
    refine { defers := by rw [ha], size := hsz, grow := by rw [cw]; exact Nat.le_refl _, keep := fun b _ => by rw [cw], kip := fun b hb => hJip b (hKJ b (by rw [cK] at hb; exact hb)), os := by rw [cw], tape := by rw [cw], output := by rw [cw], old := fun b _ _ => by rw [cw],
             nodup := fun s => (k3 s (Nat.zero_le _)).1, disj := fun s s' hne => k4 s s' (Nat.zero_le _) (Nat.zero_le _) hne, rng := fun s b hb => ?_, xnodup := List.nodup_nil, xdisj := by simp, xrng := by simp, slot := k1, fixed := fun z hz => ?_ }
    · have := (k3 s (Nat.zero_le _)).2 b hb
      exact ⟨hfps b this, .inl ((cM b).2 this)⟩
    · rw [cfix] at hz
      obtain ⟨m1, m2, m3⟩ := fixL_ok ps 0 vs hio z hz
      exact ⟨htmp z.1 z.2 (by simpa using m3), by rw [cE]; exact m1⟩
  have hwp := H c x o a w F _ cP cE he ht' ho hsim
  -- the end
  have fin : ∀ (σ : St) (a' : Act) (w' : World) (F' : Nat → List Nat) (G' : Nat → Value) (z : IoL ps × RL rs), retG E ps rs fn.results.toList σ = some z → Sim c σ a' w' [] F' G' → a'.defers = [] ∧ ∃ v, (results fn a'.tmps).run P w' = .ok v w' ∧ ∃ v', Ending.returned v = .returned v' ∧ OutOK w w' K ⟨ps, rs, O, Fn, out⟩ z vs fp v' := by
    intro σ a' w' F' G' zz hret hs
    unfold retG at hret
    rw [← cE] at hret
    obtain ⟨σ2, F2, fr, z, rv, q1, q2, q3, q4⟩ := resOut_ok he ht' rs fn.results.toList σ [] F' _ hrs hs hret
    cases hio2 : ioOut σ2 ps 0 with
    | none => simp [hio2] at q1
    | some io =>
      simp only [hio2, Option.some.injEq] at q1
      subst q1
      rw [List.append_nil] at q2
      obtain ⟨fio, r1, r2, r3⟩ := ioOut_ok q2 ps 0 vs io hps hvl (by rw [cE]; omega) (fun z hz => (q2.fixed z (by rw [cfix]; exact hz)).1) hio2
      refine ⟨hs.defers, packV rv, results_run (by rw [cP] at q4; exact q4), packV rv, rfl, ⟨⟨rv, fr, fio, rfl, by rw [cK] at q3; exact q3, by rw [cK] at r1; exact r1, ?_, ?_⟩, ?_⟩⟩
      · refine List.nodup_append.2 ⟨q2.xnodup, r2, ?_⟩
        rintro b hb b' hb' rfl
        obtain ⟨s, _, _, m3⟩ := r3 b hb'
        exact q2.xdisj s b m3 hb
      · intro b hb
        rcases List.mem_append.1 hb with hb | hb
        · obtain ⟨m1, m2⟩ := q2.xrng b hb
          exact ⟨m1, by rw [cM, cw] at m2; exact m2⟩
        · obtain ⟨s, _, _, m3⟩ := r3 b hb
          obtain ⟨m1, m2⟩ := q2.rng s b m3
          exact ⟨m1, by rw [cM, cw] at m2; exact m2⟩
      · have := q2.grow
        rw [cw] at this
        exact ⟨by rw [q2.os, cw], by rw [q2.tape, cw], by rw [q2.output, cw], this, fun b hb hn => by
          have := q2.old b (by rw [cw]; exact hb) (fun hm => hn ((cM b).1 hm))
          rw [cw] at this; exact this⟩
  refine calls_of_wp hf hb ?_
  rw [ha] at hwp
  refine wp_mono hwp ?_
  rintro e a' w' hE
  cases e with
  | normal =>
    obtain ⟨σ, F', G', h1, _, h2⟩ := hE
    cases hr : retG E ps rs fn.results.toList σ with
    | none => simp [hr, retK] at h1
    | some o' =>
      simp only [hr, retK, Option.some.injEq] at h1
      have := fin σ a' w' F' G' o' hr h2
      rw [← hmk o', h1] at this
      exact this
  | ret =>
    obtain ⟨σ, F', G', o', h0, h1, h2⟩ := hE
    simp only [Option.some.injEq] at h1
    have := fin σ a' w' F' G' o' h0 h2
    rw [← hmk o', h1] at this
    exact this
  | exit j => obtain ⟨σ, F', G', h1, _, h2⟩ := hE; simp at h1
  | _ => exact hE.elim

/-- A FUNCTION RETURNS WHAT ITS DENOTATION DOES. -/
theorem sound_of_den {P : Program} {n : Nat} {fn : Func} {E : Tb} {ann : An} {ps : List PK} {rs : List RK} (hf : P.funcs[n]? = some fn) (hname : (fn.name == "runtime.NumGoroutine") = false) (hm : P.follows .mixedOrders = true)
    (hnt : fn.ntmps = E.nt) (hlen : ps.length ≤ E.nt) (hio : ioB ps 0 E.io = true) (hE : SgOK P E) (ht : TyOK P E.ty) (hps : PsOK ps) (hrs : RsOK rs)
    {O : Type} (Fn : Args ps → Option O) (out : O → IoL ps × RL rs) (mk : IoL ps × RL rs → O) (hmk : ∀ z, out (mk z) = z) (hFn : ∀ x, denG E ann ps rs fn (fun z => some (mk z)) x = Fn x) (hbody : fn.body.isNone = false) : Sound P n ⟨ps, rs, O, Fn, out⟩ := by
  cases hb : fn.body with
  | none => rw [hb] at hbody; simp at hbody
  | some code =>
    refine sound_of_wp hf hname hm hnt hlen hio hE ht hps hrs Fn out mk hmk hb ?_
    intro c x o a w F G cP cE he ht' ho hs
    have ho := (hFn x).trans ho
    simp only [denG, hb] at ho
    have := den_ok he ht' (by rw [cP]; exact hm) ann (retG E ps rs fn.results.toList) code (initSt ps 0 x emptySt) (fun σ => retK (retG E ps rs fn.results.toList σ) fun z => some (mk z)) (fun _ _ => none) (fun z => some (mk z)) o a w F G (by rw [cE]; exact ho) hs
    rw [cP] at this
    exact this
end Net

/- Tables: checks that the kernel runs. -/
namespace Net
open Go
set_option linter.unusedVariables false

def look {α : Type 1} : List (Nat × α) → Nat → Option α
  | [], _ => none
  | (k, v) :: l, n => match Nat.beq k n with | true => some v | false => look l n
theorem look_mem {α : Type 1} : ∀ {l : List (Nat × α)} {n : Nat} {v : α}, look l n = some v → (n, v) ∈ l
  | [], n, v, h => by simp [look] at h
  | (k, u) :: l, n, v, h => by
    simp only [look] at h
    cases hb : Nat.beq k n with
    | true =>
      have := Nat.eq_of_beq_eq_true hb
      simp only [hb, Option.some.injEq] at h
      subst this; subst h; simp
    | false => simp only [hb] at h; exact List.mem_cons_of_mem _ (look_mem h)
def lookT : List (Nat × Ty) → Nat → Option Ty
  | [], _ => none
  | (k, v) :: l, n => match Nat.beq k n with | true => some v | false => lookT l n
theorem lookT_mem : ∀ {l : List (Nat × Ty)} {n : Nat} {v : Ty}, lookT l n = some v → (n, v) ∈ l
  | [], n, v, h => by simp [lookT] at h
  | (k, u) :: l, n, v, h => by
    simp only [lookT] at h
    cases hb : Nat.beq k n with
    | true =>
      have := Nat.eq_of_beq_eq_true hb
      simp only [hb, Option.some.injEq] at h
      subst this; subst h; simp
    | false => simp only [hb] at h; exact List.mem_cons_of_mem _ (lookT_mem h)

def fldB (ty : Nat → Option Ty) : List Field → List Ty → Nat → Bool
  | [], [], _ => true
  | f :: fs, u :: us, o => tyIs (ty f.type) u && Nat.beq f.offset o && !(f.name == "_") && fldB ty fs us (o + csz u)
  | _, _, _ => false
theorem fldB_ok {ty : Nat → Option Ty} : ∀ (fs : List Field) (us : List Ty) (o : Nat), fldB ty fs us o = true → fs.length = us.length ∧ ∀ i f, fs[i]? = some f → ∃ u, us[i]? = some u ∧ ty f.type = some u ∧ f.offset = o + offs us i ∧ f.name ≠ "_"
  | [], [], o, _ => ⟨rfl, fun i f h => by simp at h⟩
  | f :: fs, u :: us, o, h => by
    simp only [fldB, Bool.and_eq_true] at h
    obtain ⟨⟨⟨h1, h2⟩, h3⟩, h4⟩ := h
    obtain ⟨k1, k2⟩ := fldB_ok fs us _ h4
    refine ⟨by simp [k1], fun i g hg => ?_⟩
    cases i with
    | zero =>
      simp only [List.getElem?_cons_zero, Option.some.injEq] at hg
      subst hg
      exact ⟨u, rfl, tyIs_eq h1, by rw [Nat.eq_of_beq_eq_true h2]; simp [offs], by simpa using h3⟩
    | succ i =>
      obtain ⟨v, m1, m2, m3, m4⟩ := k2 i g (by simpa using hg)
      exact ⟨v, by simpa using m1, m2, by rw [m3]; simp [offs]; omega, m4⟩
  | [], _ :: _, _, h | _ :: _, [], _, h => by simp [fldB] at h

theorem TyAt.mkS {P : Program} {ty : Nat → Option Ty} {T : Nat} {s : SId} {i : TypeInfo} {fs : Array Field} (h1 : P.info? T = some i) (h2 : i.size = csz (.st s)) (h3 : Nat.ble i.bytes 1024 = true) (h4 : i.zero = some (mkV (.st s) (zc (.st s)))) (h5 : P.underlying T = some (.struct fs))
    (h6 : fldB ty fs.toList (fieldsOf s) 0 = true) (h7 : plainS s = true → P.eqGuardType P.depth T = false ∧ P.stoodInHeld T = false) : TyAt P ty T (.st s) := by
  obtain ⟨k1, k2⟩ := fldB_ok _ _ _ h6
  exact ⟨⟨i, h1, h2, Nat.le_of_ble_eq_true h3, h4⟩, ⟨fs, h5, by simpa using k1, fun j f hf => by
    obtain ⟨u, m1, m2, m3, m4⟩ := k2 j f (by simpa using hf)
    exact ⟨u, m1, m2, by simpa using m3, m4⟩⟩, h7⟩
theorem TyAt.mkL {P : Program} {ty : Nat → Option Ty} {T Te : Nat} {e : Ty} {i : TypeInfo} (h1 : P.info? T = some i) (h2 : i.size = 1) (h3 : Nat.ble i.bytes 1024 = true) (h4 : i.zero = some (.slice none 0 0)) (h5 : P.underlying T = some (.slice Te))
    (h6 : tyIs (ty Te) e = true) : TyAt P ty T (.sl e) :=
  ⟨⟨i, h1, h2, Nat.le_of_ble_eq_true h3, h4⟩, ⟨Te, h5, tyIs_eq h6⟩, fun h => by simp [plainT] at h⟩
theorem TyAt.mkI {P : Program} {ty : Nat → Option Ty} {T : Nat} {k : IntKind} {i : TypeInfo} (h1 : P.info? T = some i) (h2 : i.size = 1) (h3 : Nat.ble i.bytes 1024 = true) (h4 : i.zero = some (.int k 0)) (h5 : P.underlying T = some (.int k))
    (h7 : P.eqGuardType P.depth T = false ∧ P.stoodInHeld T = false) : TyAt P ty T (.int k) := ⟨⟨i, h1, h2, Nat.le_of_ble_eq_true h3, h4⟩, h5, fun _ => h7⟩
theorem TyAt.mkB {P : Program} {ty : Nat → Option Ty} {T : Nat} {i : TypeInfo} (h1 : P.info? T = some i) (h2 : i.size = 1) (h3 : Nat.ble i.bytes 1024 = true) (h4 : i.zero = some (.bool false)) (h5 : P.underlying T = some .bool)
    (h7 : P.eqGuardType P.depth T = false ∧ P.stoodInHeld T = false) : TyAt P ty T .bool := ⟨⟨i, h1, h2, Nat.le_of_ble_eq_true h3, h4⟩, h5, fun _ => h7⟩
theorem TyAt.mkT {P : Program} {ty : Nat → Option Ty} {T : Nat} {i : TypeInfo} (h1 : P.info? T = some i) (h2 : i.size = 1) (h3 : Nat.ble i.bytes 1024 = true) (h4 : i.zero = some (.string ByteArray.empty)) (h5 : P.underlying T = some .string)
    (h7 : P.eqGuardType P.depth T = false ∧ P.stoodInHeld T = false) : TyAt P ty T .str := ⟨⟨i, h1, h2, Nat.le_of_ble_eq_true h3, h4⟩, h5, fun _ => h7⟩

def AllT (P : Program) (ty : Nat → Option Ty) : List (Nat × Ty) → Prop
  | [] => True
  | p :: l => TyAt P ty p.1 p.2 ∧ AllT P ty l
theorem AllT.mem {P : Program} {ty : Nat → Option Ty} : ∀ {l : List (Nat × Ty)}, AllT P ty l → ∀ p ∈ l, TyAt P ty p.1 p.2
  | [], _, p, hp => by simp at hp
  | q :: l, h, p, hp => by
    rcases List.mem_cons.1 hp with rfl | hp
    · exact h.1
    · exact h.2.mem p hp
theorem tyOK_of {P : Program} {l : List (Nat × Ty)} (h : AllT P (lookT l) l) : TyOK P (lookT l) := fun T t hT => h.mem (T, t) (lookT_mem hT)

/-- A function's contract, and what its tags have to be. -/
structure FnGood (P : Program) (n : Nat) (sg : Sig) : Prop where
  sound : Sound P n sg
  rs : RsOK sg.rs
  ps : PsOK sg.ps
def AllG (P : Program) : List (Nat × Sig) → Prop
  | [] => True
  | p :: l => FnGood P p.1 p.2 ∧ AllG P l
theorem AllG.mem {P : Program} : ∀ {l : List (Nat × Sig)}, AllG P l → ∀ p ∈ l, FnGood P p.1 p.2
  | [], _, p, hp => by simp at hp
  | q :: l, h, p, hp => by
    rcases List.mem_cons.1 hp with rfl | hp
    · exact h.1
    · exact h.2.mem p hp
def rsB : List RK → Bool
  | [] => true
  | .v t g :: l => noIp g && aliveT t g && rsB l
  | .pb t g :: l => noIp g && aliveT t g && rsB l
theorem rsB_ok : ∀ l, rsB l = true → RsOK l
  | [], _, r, hr => by simp at hr
  | .v t g :: l, h, r, hr => by
    simp only [rsB, Bool.and_eq_true] at h
    rcases List.mem_cons.1 hr with rfl | hr
    · exact h.1
    · exact rsB_ok l h.2 r hr
  | .pb t g :: l, h, r, hr => by
    simp only [rsB, Bool.and_eq_true] at h
    rcases List.mem_cons.1 hr with rfl | hr
    · exact h.1
    · exact rsB_ok l h.2 r hr
def psB : List PK → Bool
  | [] => true
  | .io _ g :: l => noIp g && psB l
  | _ :: l => psB l
theorem psB_ok : ∀ l, psB l = true → PsOK l
  | [], _, r, hr => by simp at hr
  | p :: l, h, r, hr => by
    have hl : psB l = true := by
      cases p <;> first | exact h | (simp only [psB, Bool.and_eq_true] at h; exact h.2)
    rcases List.mem_cons.1 hr with rfl | hr
    · cases r with
      | io t g => simp only [psB, Bool.and_eq_true] at h; exact h.1
      | _ => trivial
    · exact psB_ok l hl r hr
/-- What is looked at of a function besides its denotation. -/
def fnB (E : Tb) (fn : Func) (ps : List PK) (rs : List RK) : Bool :=
  !(fn.name == "runtime.NumGoroutine") && Nat.beq fn.ntmps E.nt && Nat.ble ps.length E.nt && ioB ps 0 E.io && psB ps && rsB rs && !fn.body.isNone
theorem good_of {P : Program} {n : Nat} {fn : Func} {l : List (Nat × Sig)} {tys : List (Nat × Ty)} {nt : Nat} {io : List Nat} (ann : An) {ps : List PK} {rs : List RK} {O : Type} {Fn : Args ps → Option O} {out : O → IoL ps × RL rs} (mk : IoL ps × RL rs → O)
    (hm : P.follows .mixedOrders = true) (ht : TyOK P (lookT tys)) (hf : P.funcs[n]? = some fn) (hl : AllG P l) (hB : fnB ⟨lookT tys, look l, nt, io⟩ fn ps rs = true) (hmk : ∀ z, out (mk z) = z)
    (hFn : ∀ x, denG ⟨lookT tys, look l, nt, io⟩ ann ps rs fn (fun z => some (mk z)) x = Fn x) : FnGood P n ⟨ps, rs, O, Fn, out⟩ := by
  simp only [fnB, Bool.and_eq_true, Bool.not_eq_true'] at hB
  obtain ⟨⟨⟨⟨⟨⟨h1, h2⟩, h3⟩, h4⟩, h5⟩, h6⟩, h7⟩ := hB
  exact ⟨sound_of_den (E := ⟨lookT tys, look l, nt, io⟩) (ann := ann) hf h1 hm (Nat.eq_of_beq_eq_true h2) (Nat.le_of_ble_eq_true h3) h4 (fun k sg hk => ⟨(hl.mem _ (look_mem hk)).sound, (hl.mem _ (look_mem hk)).rs, (hl.mem _ (look_mem hk)).ps⟩) ht (psB_ok _ h5) (rsB_ok _ h6) Fn out mk hmk hFn h7, rsB_ok _ h6, psB_ok _ h5⟩
end Net

/- Words of the plain functions. -/
namespace Net
open Go

abbrev W (n : Int) : Int := IntKind.wrap .i64 n
/-- A copy. -/
def Clone {α : Type} (xs : List α) : Option (List α) := if xs.length ≤ room then some xs else none
end Net

/- Contracts by hand: a copy of a slice (its text asks whether the slice is nil). -/
namespace Net
open Go
set_option linter.unusedVariables false

def an0 : An := ⟨fun _ => none, fun _ => none⟩
section
variable (e : Ty) (x : Args [.val (.sl e) false])
def cA0 : St := initSt [.val (.sl e) false] 0 x emptySt
def cA1 : St := (cA0 e x).set 2 (.own (.sl e) [] .own)
def cA2 : St := (cA1 e x).set 3 (.vw (.sl e) x.1 .ip)
def cA3 (b : Bool) : St := (cA2 e x).set 4 (.own .bool b .own)
end
abbrev cRt (E : Tb) (e : Ty) (fn : Func) : St → Option (IoL [.val (.sl e) false] × RL [.v (.sl e) .own]) := retG E [.val (.sl e) false] [.v (.sl e) .own] fn.results.toList
abbrev cMk {e : Ty} (z : IoL [.val (.sl e) false] × RL [.v (.sl e) .own]) : List (El e) := z.2.1
noncomputable abbrev cDen (E : Tb) (e : Ty) (fn : Func) (c : Code) (σ : St) : Option (List (El e)) :=
  den E an0 (cRt E e fn) c σ (fun σ => retK (cRt E e fn σ) fun z => some (cMk z)) (fun _ _ => none) (fun z => some (cMk z))

noncomputable abbrev cDenR (E : Tb) (e : Ty) (fn : Func) (c : Code) (σ : St) : Option (List (El e)) :=
  den E an0 (cRt E e fn) c σ (fun _ => none) (fun _ _ => none) (fun z => some (cMk z))

theorem clone_good {P : Program} {n : Nat} {fn : Func} {tys : List (Nat × Ty)} {T T' nt : Nat} {e : Ty} (hm : P.follows .mixedOrders = true) (ht : TyOK P (lookT tys)) (hf : P.funcs[n]? = some fn) (hT : lookT tys T = some (.sl e))
    {c1 c2 r0 : Code} {id : Nat} {o1 o2 : Oper} (hb : fn.body = some (.seq r0 (.seq (.seq (.region id #[o1, o2] false) (.cond (.tmp 4) c1 .skip)) c2)))
    (hB : fnB ⟨lookT tys, look [], nt, []⟩ fn [.val (.sl e) false] [.v (.sl e) .own] = true) (h4 : 4 < nt)
    (g1 : o1.guard = none) (g2 : o2.guard = none) (d2 : o2.dst = some 4) (p2 : o2.op = .binOp .eql T (.tmp 3) (.const (.slice none 0 0)) T')
    (h0 : ∀ x, den ⟨lookT tys, look [], nt, []⟩ an0 (cRt ⟨lookT tys, look [], nt, []⟩ e fn) r0 (cA0 e x) (α := St) some (fun _ _ => none) (fun _ => none) = some (cA1 e x))
    (h1 : ∀ x, (opK ⟨lookT tys, look [], nt, []⟩ o1 .done).run (cA1 e x) = some (cA2 e x))
    (h2 : ∀ x, cDenR ⟨lookT tys, look [], nt, []⟩ e fn c1 (cA3 e x true) = some [])
    (h3 : ∀ x, cDen ⟨lookT tys, look [], nt, []⟩ e fn c2 (cA3 e x false) = Option.bind (appE ([] : List (El e)) x.1) fun z => some z) :
    FnGood P n ⟨[.val (.sl e) false], [.v (.sl e) .own], List (El e), fun a => Clone a.1, fun o => ((), (o, ()))⟩ := by
  have hB' := hB
  simp only [fnB, Bool.and_eq_true, Bool.not_eq_true'] at hB
  obtain ⟨⟨⟨⟨⟨⟨b1, b2⟩, b3⟩, b4⟩, b5⟩, b6⟩, b7⟩ := hB
  refine ⟨?_, rsB_ok _ b6, psB_ok _ b5⟩
  refine sound_of_wp (E := ⟨lookT tys, look [], nt, []⟩) hf b1 hm (Nat.eq_of_beq_eq_true b2) (Nat.le_of_ble_eq_true b3) b4 (fun k sg hk => by simp [look] at hk) ht (psB_ok _ b5) (rsB_ok _ b6) _ _ cMk (fun _ => rfl) hb ?_
  intro c x o a w F G cP cE he ht' ho hs
  subst cP
  rw [← cE] at h0 h1 h2 h3
  rw [← cE]
  have h4' : 4 < c.E.nt := by rw [cE]; exact h4
  have h3' : 3 < c.E.nt := by omega
  have hTc : c.E.ty T = some (.sl e) := by rw [cE]; exact hT
  have kio : ∀ s, isIo s c.E.io = false := fun s => by rw [cE]; rfl
  refine wp_seq (wp_mono (den_ok he ht' hm an0 (cRt c.E e fn) r0 (cA0 e x) some (fun _ _ => none) (fun _ => none) (cA1 e x) a w F G (h0 x) hs) ?_)
  rintro ex a1 w1 hE
  cases ex with
  | normal =>
    obtain ⟨σ1, F1, G1, k1, v1, hs1⟩ := hE
    obtain rfl := Option.some.inj k1
    refine wp_seq (wp_seq (wp_region_list ?_))
    show wpList c.P #[o1, o2] _ [o1, o2] a1 w1
    unfold wpList
    rw [if_pos (by simp [Region.wanted, g1])]
    refine .inl (Oper.wp_mono ?_ (opK_ok he ht' hs1 (h1 x)))
    rintro a2 w2 ⟨F2, G2, hs2⟩
    unfold wpList
    rw [if_pos (by simp [Region.wanted, g2])]
    refine .inl ?_
    -- the question whether it is nil
    have hsl := hs2.slot 3
    have hst : (cA2 e x 3).1 = .vw (.sl e) x.1 .ip := by simp [cA2]
    rw [hst] at hsl
    obtain ⟨d, cs, q1, q2⟩ := hsl.2 trivial
    have hev : a2.eval (.tmp 3) = mkV (.sl e) cs := by rw [eval_tmp (c := c) (G := G2) h3', q1]
    obtain ⟨Te, hu, _⟩ := (ht' _ _ hTc).und
    obtain ⟨b, hx, hnil⟩ : ∃ b, (execOp a2.eval o2).run c.P w2 = .ok (.value (.bool b)) w2 ∧ (b = true → x.1 = []) := by
      cases d with
      | zero => exact q2.elim
      | succ d =>
        rcases q2 with ⟨rfl, hx⟩ | ⟨ad, cap, rfl, _⟩
        · refine ⟨true, ?_, fun _ => hx⟩
          have h5 := run_equal_slice_nil (P := c.P) w2 T Te none 0 0 hu
          have hev : a2.eval (.tmp 3) = .slice none 0 0 := hev
          have hc : a2.eval (.const (.slice none 0 0)) = .slice none 0 0 := rfl
          simp [execOp, p2, hev, hc, eqGuard, binOp, h5]
        · refine ⟨false, ?_, fun h => by cases h⟩
          have h5 := run_equal_slice_nil (P := c.P) w2 T Te (some ad) x.1.length cap hu
          have hev : a2.eval (.tmp 3) = .slice (some ad) x.1.length cap := hev
          have hc : a2.eval (.const (.slice none 0 0)) = .slice none 0 0 := rfl
          simp [execOp, p2, hev, hc, eqGuard, binOp, h5]
    unfold Oper.wp
    rw [hx, Oper.upon_value, d2]
    show Exit.then _ _ .normal _ _
    have hs3 : Sim c (cA3 e x b) (a2.put (some 4) (.bool b)) w2 [] (fun r => if r = 4 then [] else F2 r) G2 :=
      hs2.put h4' (kio 4) (Frm.refl _ _) (f := []) (X' := []) (by simp) (by simp) ⟨[.bool b], rfl, pv_bool.TR _ _⟩
    have hev4 : (a2.put (some 4) (.bool b)).eval (.tmp 4) = .bool b := put_same (by rw [hs2.size]; exact h4')
    refine wp_cond (t := b) hev4 ?_
    cases b with
    | true =>
      have hxn := hnil rfl
      have ho' : o = [] := by
        have : Clone x.1 = some o := ho
        rw [hxn] at this
        simpa [Clone, room] using this.symm
      subst ho'
      refine wp_mono (den_ok he ht' hm an0 (cRt c.E e fn) c1 _ _ _ _ [] _ _ _ _ (h2 x) hs3) ?_
      rintro ex a3 w3 hE
      have hv3 : VMono (cA0 e x) (cA3 e x true) := v1.trans ((VMono.set _ _ _).trans (VMono.set _ _ _))
      have hE := End.from hv3 hE
      cases ex with
      | normal => obtain ⟨σ4, F4, G4, k4, _⟩ := hE; simp at k4
      | exit j => obtain ⟨σ4, F4, G4, k4, _⟩ := hE; simp at k4
      | ret => exact hE
      | _ => exact hE.elim
    | false =>
      refine wp_skip ?_
      have ho' : (Option.bind (appE ([] : List (El e)) x.1) fun z => some z) = some o := by
        have : Clone x.1 = some o := ho
        unfold Clone at this
        unfold appE
        simpa using this
      have hv3 : VMono (cA0 e x) (cA3 e x false) := v1.trans ((VMono.set _ _ _).trans (VMono.set _ _ _))
      exact wp_mono (den_ok he ht' hm an0 (cRt c.E e fn) c2 _ _ _ _ o _ _ _ _ ((h3 x).trans ho') hs3) fun _ _ _ hE => End.from hv3 hE
  | exit j => obtain ⟨σ1, F1, G1, k1, _⟩ := hE; simp at k1
  | ret => obtain ⟨σ1, F1, G1, oo, k0, k1, _⟩ := hE; simp at k1
  | _ => exact hE.elim
end Net

/- A law's row: what is read of the arguments is typed data; behind the call it reads as it did. -/
namespace Net
open Go Go.ChangeShapes Go.WideShapes Go.RowKit
set_option linter.unusedVariables false
set_option linter.unusedSectionVars false

/-- Numbers fit their kind, slices and strings have a length that there is. -/
def okE : Nat → (t : Ty) → El t → Prop
  | 0, _, _ => False
  | _ + 1, .int k, n => inR k n
  | _ + 1, .bool, _ => True
  | _ + 1, .str, s => ByteArray.size s ≤ maxLen
  | d + 1, .sl e, xs => List.length xs ≤ maxLen ∧ ∀ (i : Nat) (y : El e), xs[i]? = some y → okE d e y
  | d + 1, .st s, x => FL (fun t y c f => okE d t y) (fieldsOf s) (toL s x) [] []
theorem FL_ok {R : (t : Ty) → El t → List Value → List Nat → Prop} {Q : (t : Ty) → El t → Prop} (h : ∀ t y c f, R t y c f → Q t y) : ∀ (ts : List Ty) (x : HL ts) (cs : List Value) (f : List Nat), FL R ts x cs f → FL (fun t y c f => Q t y) ts x [] []
  | [], _, _, _, _ => ⟨rfl, rfl⟩
  | t :: ts, x, cs, f, hh => by
    obtain ⟨c, c', g, g', rfl, rfl, h1, h2⟩ := hh
    exact ⟨[], [], [], [], rfl, rfl, h _ _ _ _ h1, FL_ok h ts _ _ _ h2⟩
theorem RI_ok {w : World} {J : Nat → Prop} : ∀ (d : Nat) (t : Ty) (x : El t) (cs : List Value), RI w J d t x cs → okE d t x
  | 0, _, _, _, h => h.elim
  | d + 1, .int k, x, cs, h => h.2
  | d + 1, .bool, x, cs, h => trivial
  | d + 1, .str, x, cs, h => h.2
  | d + 1, .sl e, x, cs, h => by
    rcases h with ⟨_, rfl⟩ | ⟨a, cap, h1, h2, h3, h4, h5⟩
    · exact ⟨Nat.zero_le _, fun i y hi => by simp at hi⟩
    · exact ⟨Nat.le_trans h3 h4, fun i y hi => by obtain ⟨c, _, _, hr⟩ := h5 i y hi; exact RI_ok d e y c hr⟩
  | d + 1, .st s, x, cs, h => FL_ok (fun t y c f hh => RI_ok d t y c hh.2) _ _ _ _ h

section
variable {H : Type} {enc : TypeId × Value → H} {P : Program} {ty : Nat → Option Ty} (hT : TyOK P ty) {w : World} {spare : Nat → Bool} {held : Bool}
include hT

theorem cellsOf_ty {T : Nat} {t : Ty} (h : ty T = some t) : P.cellsOf T = csz t := by
  obtain ⟨i, h1, h2, _⟩ := (hT T t h).info
  simp [Program.cellsOf, h1, h2]

omit hT in
theorem FL_build {w : World} {J : Nat → Prop} {n : Nat} : ∀ (ts : List Ty) (cs : List Value), (∀ i u, ts[i]? = some u → ∃ y, RI w J n u y ((cs.drop (offs ts i)).take (csz u))) → cs.length = (ts.map csz).sum → ∃ l : HL ts, FL (fun t y c f => f = [] ∧ RI w J n t y c) ts l cs []
  | [], cs, _, hl => ⟨(), by simpa using hl, rfl⟩
  | t :: ts, cs, h, hl => by
    obtain ⟨y, hy⟩ := h 0 t rfl
    obtain ⟨l, hL⟩ := FL_build (w := w) (J := J) (n := n) ts (cs.drop (csz t)) (fun i u hu => by
      obtain ⟨z, hz⟩ := h (i + 1) u (by simpa using hu)
      refine ⟨z, ?_⟩
      rw [List.drop_drop]
      have : offs (t :: ts) (i + 1) = csz t + offs ts i := by simp [offs]
      rwa [this] at hz) (by rw [List.length_drop, hl]; simp)
    refine ⟨(y, l), cs.take (csz t), cs.drop (csz t), [], [], by simp, rfl, ⟨rfl, ?_⟩, hL⟩
    simpa [offs] using hy

theorem trod_RI : ∀ (fuel T : Nat) (t : Ty) (cs : List Value) (x : DataW H × List MemPlace), ty T = some t → DataW.trod enc P w 0 spare held fuel T cs = some x → ∃ y, RI w (fun b => b < w.heap.size) fuel t y cs := by
  intro fuel
  induction fuel with
  | zero => intro T t cs x _ h; simp [DataW.trod] at h
  | succ n ih =>
    intro T t cs x ht h
    have hu := (hT T t ht).und
    cases t with
    | int k => obtain ⟨m, rfl, _, hw⟩ := DataW.trod_int hu h; exact ⟨m, rfl, hw⟩
    | bool => obtain ⟨b, rfl, _⟩ := DataW.trod_bool hu h; exact ⟨b, rfl⟩
    | str => obtain ⟨s, rfl, _, hs⟩ := DataW.trod_string hu h; exact ⟨s, rfl, hs⟩
    | sl e =>
      obtain ⟨Te, hu, he⟩ := hu
      rcases DataW.trod_slice hu h with ⟨rfl, _⟩ | ⟨a, len, cap, elems, rest, m, hm, rfl, _, _, hlc, hcap, hlen, hel, _⟩
      · exact ⟨[], .inl ⟨rfl, rfl⟩⟩
      · obtain rfl : n = m := by omega
        have hce := cellsOf_ty hT he
        have hex : ∀ i : Nat, i < len → ∃ (y : El e) (c : List Value), c.length = csz e ∧ locA w (a.add (i * csz e)) c ∧ RI w (fun b => b < w.heap.size) n e y c ∧ a.block < w.heap.size := by
          intro i hi
          have h1 := hel i hi
          have : ∃ z, elems[i]? = some z := ⟨elems[i]'(by omega), List.getElem?_eq_getElem _⟩
          obtain ⟨z, hz⟩ := this
          rw [hz, Option.bind_eq_some_iff] at h1
          obtain ⟨c, h2, h3⟩ := h1
          rw [hce] at h2
          obtain ⟨_, h4, h5⟩ := World.cells?_some h2
          obtain ⟨y, hy⟩ := ih Te e c z he h3
          have hb := World.cells?_block h2 (csz_pos e)
          rw [add_block] at hb
          refine ⟨y, c, h4, ?_, hy, hb⟩
          intro j v hj
          have hjl := (List.getElem?_eq_some_iff.1 hj).1
          rw [h5 j (by omega)]; exact hj
        classical
        let f : Nat → El e := fun i => if hi : i < len then Classical.choose (hex i hi) else zeroE e
        refine ⟨(List.range len).map f, .inr ⟨a, cap, by simp, fun hp => ?_, by simpa using hlc, hcap, fun i y hi => ?_⟩⟩
        · have hp : 0 < len := by simpa using hp
          obtain ⟨_, _, _, _, _, hb⟩ := hex 0 hp
          exact hb
        · rw [List.getElem?_map] at hi
          have hlt : i < len := by
            rcases Nat.lt_or_ge i len with h | h
            · exact h
            · rw [List.getElem?_eq_none (by simpa using h)] at hi; cases hi
          rw [List.getElem?_range hlt] at hi
          simp only [Option.map_some, Option.some.injEq, f, dif_pos hlt] at hi
          obtain ⟨c, h1, h2, h3, _⟩ := Classical.choose_spec (hex i hlt)
          exact ⟨c, h1, h2, hi ▸ h3⟩
    | st s =>
      obtain ⟨fs, hu, hsz, hf⟩ := hu
      obtain ⟨xs, m, hm, _, hl, hxl, hx⟩ := DataW.trod_struct hu h
      obtain rfl : n = m := by omega
      have hl' : cs.length = ((fieldsOf s).map csz).sum := by rw [hl, cellsOf_ty hT ht, csz, cszS_eq]
      obtain ⟨l, hL⟩ := FL_build (w := w) (J := fun b => b < w.heap.size) (n := n) (fieldsOf s) cs (fun i u hu2 => by
        have hi : i < fs.size := by rw [hsz]; exact (List.getElem?_eq_some_iff.1 hu2).1
        have hfi : fs[i]? = some fs[i] := by simp [hi]
        obtain ⟨u', k1, k2, k3, _⟩ := hf i _ hfi
        rw [hu2] at k1
        obtain rfl := Option.some.inj k1
        have h3 := hx i _ hfi
        have : ∃ z, xs[i]? = some z := ⟨xs[i]'(by omega), List.getElem?_eq_getElem _⟩
        obtain ⟨z, hz⟩ := this
        rw [hz, k3, cellsOf_ty hT k2] at h3
        exact ih _ u _ z k2 h3) hl'
      refine ⟨ofL s l, ?_⟩
      show FL _ (fieldsOf s) (toL s (ofL s l)) cs []
      rw [toL_ofL]
      exact hL

theorem val_of_ok {T : Nat} {t : Ty} {v : Value} {base : Nat} (ht : ty T = some t) (hok : Value.okWide P w .any base T v) : v = mkV t v.cells.toList := by
  have hu := (hT T t ht).und
  have one : ∀ d, P.underlying T = some d → (∀ cs, ¬ Cell.okWide P w .any base T (.agg cs)) → (match d with | .struct _ | .array _ _ => False | _ => True) → v = v.cells.toList.headD undef := by
    intro d hd hno hm
    have h2 : Cell.okWide P w .any base T v := by
      unfold Value.okWide at hok
      rw [hd] at hok
      cases d <;> first | exact hok | exact hm.elim
    cases v <;> first | rfl | exact absurd h2 (hno _)
  cases t with
  | int k => exact one _ hu (fun cs h => by simp [Cell.okWide, Cell.ok, hu] at h) trivial
  | bool => exact one _ hu (fun cs h => by simp [Cell.okWide, Cell.ok, hu] at h) trivial
  | str => exact one _ hu (fun cs h => by simp [Cell.okWide, Cell.ok, hu] at h) trivial
  | sl e => obtain ⟨Te, hu, _⟩ := hu; exact one _ hu (fun cs h => by simp [Cell.okWide, Cell.ok, hu] at h) trivial
  | st s =>
    obtain ⟨fs, hu, _⟩ := hu
    unfold Value.okWide at hok
    rw [hu] at hok
    obtain ⟨cs, rfl, _⟩ := hok
    simp [mkV, Value.cells]

def psOf (ts : List (Nat × Ty)) : List PK := ts.map fun p => .val p.2 false
def OkA : (ts : List (Nat × Ty)) → Args (psOf ts) → Prop
  | [], _ => True
  | p :: ts, x => (∃ d, okE d p.2 x.1) ∧ OkA ts x.2
theorem args_read {W : World} {base : Nat} : ∀ (ts : List (Nat × Ty)) (vs : List Value) (ds : List (DataW H)) (p : List MemPlace), (∀ q ∈ ts, ty q.1 = some q.2) → DataW.TrodAll enc P W 0 (fun _ => true) true (ts.map (·.1)) vs ds p → (∀ (j : Nat) (T : TypeId) (v : Value), (ts.map (·.1))[j]? = some T → vs[j]? = some v → Value.okWide P W .any base T v) →
    ∃ x : Args (psOf ts), ArgsOK P W (fun b => b < W.heap.size) (fun _ => False) (psOf ts) x vs [] ∧ OkA ts x
  | [], vs, ds, p, _, h, _ => by
    cases vs with
    | nil => exact ⟨(), ⟨rfl, rfl⟩, trivial⟩
    | cons v vs => simp [DataW.TrodAll] at h
  | q :: ts, [], ds, p, _, h, _ => by cases ds <;> simp [DataW.TrodAll] at h
  | q :: ts, v :: vs, [], p, _, h, _ => by simp [DataW.TrodAll] at h
  | q :: ts, v :: vs, d :: ds, p, hq, h, hok => by
    obtain ⟨p1, p2, ⟨fuel, h1⟩, h2, _⟩ := h
    have hv := val_of_ok hT (hq q (by simp)) (hok 0 q.1 v rfl rfl)
    obtain ⟨y, hy⟩ := trod_RI hT fuel q.1 q.2 _ _ (hq q (by simp)) h1
    obtain ⟨x, h3, h4⟩ := args_read ts vs ds p2 (fun r hr => hq r (by simp [hr])) h2 (fun j T u hj hu => hok (j + 1) T u (by simpa using hj) (by simpa using hu))
    refine ⟨(y, x), ⟨fuel, _, vs, ?_, hy, h3⟩, ⟨fuel, RI_ok _ _ _ _ hy⟩, h4⟩
    rw [← hv]
omit hT in
theorem args_stay {W W' : World} (hl : laidOutB P = true) (hb : Below W.heap.size W W') : ∀ (Ts : List Nat) (vs : List Value) (ds : List (DataW H)) (p : List MemPlace), (∀ T ∈ Ts, P.readableRec T = true ∧ T < P.types.size) → (∀ x ∈ p, x.block < W.heap.size) → DataW.TrodAll enc P W 0 (fun _ => true) true Ts vs ds p →
    DataW.TrodAll enc P W' 0 (fun b => decide (b < W.heap.size)) true Ts vs ds p
  | [], vs, ds, p, _, _, h => by cases vs <;> cases ds <;> simp_all [DataW.TrodAll]
  | T :: Ts, [], ds, p, _, _, h => by cases ds <;> simp [DataW.TrodAll] at h
  | T :: Ts, v :: vs, [], p, _, _, h => by simp [DataW.TrodAll] at h
  | T :: Ts, v :: vs, d :: ds, p, hr, hlt, h => by
    obtain ⟨p1, p2, h1, h2, rfl⟩ := h
    exact ⟨p1, p2, Below.trod hl (hr T (by simp)).1 (hr T (by simp)).2 h1 hb (fun x hx => hlt x (by simp [hx])), args_stay hl hb Ts vs ds p2 (fun S hS => hr S (by simp [hS])) (fun x hx => hlt x (by simp [hx])) h2, rfl⟩
end

/-- A LAW: its plain function is true of everything that fits: the call returns true, and what was there is as it was. -/
theorem law_calls {H : Type} {enc : TypeId × Value → H} {P : Program} {tys : List (Nat × Ty)} (hT : TyOK P (lookT tys)) (hl : laidOutB P = true) {n : Nat} {fn : Func} {s : ChangeSpec} {ts : List (Nat × Ty)} {Fn : Args (psOf ts) → Option Bool} {Tb : Nat}
    {out : Bool → IoL (psOf ts) × RL [.v .bool .own]} (hg : FnGood P n ⟨psOf ts, [.v .bool .own], Bool, Fn, out⟩) (hout : ∀ o, (out o).2 = (o, ()))
    (htrue : ∀ x, OkA ts x → Fn x = some true) (hts : ∀ q ∈ ts, lookT tys q.1 = some q.2) (hparams : fn.params.toList = ts.map (·.1)) (hres : fn.resultTypes = #[Tb]) (hTb : P.underlying Tb = some .bool)
    (hvars : s.vars = []) (hspec : ∀ ds : List (DataW H), ds.length = ts.length → s.fn H ds = { results := [.lit (.bool true)], args := ds }) (hread : ∀ T ∈ ts.map (·.1), P.readableRec T = true ∧ T < P.types.size)
    {W : World} {base : Nat} {args : Array Value} {ds gs : List (DataW H)} {before : List MemPlace}
    (hval : ∀ (j : Nat) t v, fn.params[j]? = some t → args[j]? = some v → Value.okWide P W .any base t v) (hW : DataW.Whole enc P fn.params.toList s.vars false W args.toList ds gs before) :
    Calls P n args W fun e W' => ∃ v, e = .returned v ∧ s.post enc P fn false true false false W args v W' := by
  have hW' := hW
  obtain ⟨p, q, hA, hV, rfl, hfz, hnd⟩ := hW
  rw [hvars] at hV
  obtain ⟨rfl, rfl⟩ := trodVars_none hV
  rw [hparams] at hA
  have hval' : ∀ (j : Nat) (T : TypeId) (v : Value), (ts.map (·.1))[j]? = some T → args.toList[j]? = some v → Value.okWide P W .any base T v := by
    intro j T v hj hv
    refine hval j T v ?_ (by simpa using hv)
    rw [← hparams] at hj
    simpa using hj
  obtain ⟨x, hargs, hok⟩ := args_read hT ts args.toList ds p hts hA hval'
  have hlen : ds.length = ts.length := by
    have : ∀ (Ts : List Nat) (vs : List Value) (ds : List (DataW H)) (p : List MemPlace), DataW.TrodAll enc P W 0 (fun _ => true) true Ts vs ds p → ds.length = Ts.length := by
      intro Ts
      induction Ts with
      | nil => intro vs ds p h; cases vs <;> cases ds <;> simp_all [DataW.TrodAll]
      | cons T Ts ih =>
        intro vs ds p h
        cases vs with
        | nil => cases ds <;> simp [DataW.TrodAll] at h
        | cons v vs =>
          cases ds with
          | nil => simp [DataW.TrodAll] at h
          | cons d ds => obtain ⟨_, _, _, h2, _⟩ := h; simp [ih _ _ _ h2]
    simpa using this _ _ _ _ hA
  have hlt : ∀ y ∈ p, y.block < W.heap.size := fun y hy => by simpa using hW'.lt y (by simpa using hy)
  have hcall := hg.sound.2 W (fun b => b < W.heap.size) (fun _ => False) x args.toList [] true (by simp) (fun b hb => ⟨hb, by simp⟩) (by simp) (by simp) hargs (htrue x hok)
  have eargs : args.toList.toArray = args := by simp
  rw [eargs] at hcall
  refine hcall.mono ?_
  rintro e W' ⟨v, rfl, hout2⟩
  refine ⟨v, rfl, ?_⟩
  obtain ⟨⟨rv, fr, fio, rfl, hR, _, _, _⟩, hfrm⟩ := hout2
  simp only [hout] at hR
  obtain ⟨cs, f, vs', fp', rfl, _, hT2, hR2⟩ := hR
  obtain ⟨rfl, _⟩ := hR2
  have hcs : mkV .bool cs = .bool true := by
    simp only [TR] at hT2
    obtain ⟨d, hd⟩ := hT2
    cases d with
    | zero => exact hd.elim
    | succ d => obtain ⟨rfl, _⟩ := hd; rfl
  have hbel : Below W.heap.size W W' := ⟨hfrm.os, hfrm.tape, hfrm.output, hfrm.size, fun k hk => hfrm.block k hk (by simp)⟩
  have hsp := hspec ds hlen
  refine ⟨ds, [], p ++ [], [], p, [], hW', ?_, ?_, ?_, hbel.frame _, fun h => by cases h⟩
  · rw [List.append_nil, hsp, hres]
    show DataW.TrodAll enc P W' _ _ false [Tb] _ [.lit (.bool true)] []
    have : (packV [mkV .bool cs]).resultList (#[Tb] : Array TypeId).size = [.bool true] := by rw [hcs]; rfl
    rw [this]
    exact trodAll_mk1 (shut_bool hTb true)
  · rw [List.append_nil, hsp, hparams]
    exact args_stay hl hbel _ _ _ _ hread hlt hA
  · rw [List.append_nil, hsp, hvars]
    rfl
end Net
