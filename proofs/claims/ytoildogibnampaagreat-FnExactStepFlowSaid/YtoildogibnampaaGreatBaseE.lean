/- A walk by plain functions, part 5: that what a region of operations does is what a plain function says, for any program whose types are at hand. -/
import Derived.Test.YtoildogibnampaaGreatBaseD
import Derived.Orders

/- Arguments of a call: all of them. -/
namespace Net
open Go
set_option linter.unusedVariables false
set_option linter.unusedSectionVars false

theorem ArgsRun.parts {c : Cx} {σ : St} {a : Act} {w : World} {X : List Nat} {F : Nat → List Nat} {G : Nat → Value} (hsim : Sim c σ a w X F G) {ps : List PK} {vals : List Value} {vs ws : List Nat} {x : Args ps} {put : IoL ps → Mp → Mp} {vs' sl fp : List Nat} {s : Nat} (h : ArgsRun c σ a w F G ps vals vs (s :: ws) x put vs' sl fp)
    (hws : s ∉ ws) (hvs : s ∉ vs) {fh : List Nat} (hfh : ∀ b ∈ fh, b ∈ F s) (hfn : fh.Nodup) :
    (s :: sl).Nodup ∧ (∀ r ∈ s :: sl, r ∉ ws ∧ r ∉ vs') ∧ (fh ++ fp).Nodup ∧ (∀ b ∈ fh ++ fp, ∃ r ∈ s :: sl, b ∈ F r) ∧ (∀ r ∈ vs', r ∈ vs ∨ r ∉ ws) := by
  have hs : s ∉ sl := fun hs => (h.slo s hs).1 (by simp)
  refine ⟨List.nodup_cons.2 ⟨hs, h.sln⟩, ?_, ?_, ?_, ?_⟩
  · intro r hr
    rcases List.mem_cons.1 hr with rfl | hr
    · refine ⟨hws, fun hv => ?_⟩
      rcases h.new r hv with h1 | h1
      · exact hvs h1
      · exact h1 (by simp)
    · obtain ⟨h1, h2⟩ := h.slo r hr
      exact ⟨fun h3 => h1 (by simp [h3]), h2⟩
  · refine List.nodup_append.2 ⟨hfn, h.fpn, fun b hb b' hb' => ?_⟩
    rintro rfl
    obtain ⟨r, hr, hb2⟩ := h.fps b hb'
    exact hsim.disj s r (by rintro rfl; exact hs hr) b (hfh b hb) hb2
  · intro b hb
    rcases List.mem_append.1 hb with hb | hb
    · exact ⟨s, by simp, hfh b hb⟩
    · obtain ⟨r, hr, hb2⟩ := h.fps b hb
      exact ⟨r, by simp [hr], hb2⟩
  · intro r hr
    rcases h.new r hr with h1 | h1
    · exact .inl h1
    · exact .inr fun h2 => h1 (by simp [h2])

theorem ArgsRun.fn {c : Cx} {σ : St} {a : Act} {w : World} {F : Nat → List Nat} {G : Nat → Value} {ps : List PK} {vals : List Value} {vs0 vs ws : List Nat} {x : Args ps} {put : IoL ps → Mp → Mp} {vs' sl fp : List Nat} (h : ArgsRun c σ a w F G ps vals vs ws x put vs' sl fp)
    (hv0 : ∀ r ∈ vs0, r ∈ vs) (hv : ∀ r ∈ vs, r ∈ vs0 ∨ r ∉ ws) {as : List Ty} {r : Ty} {Fn : HL as → Option (El r)} {v : Value} (hp : plainT r = true) (hc : CloOK c.P w (fun b => c.Ip b ∨ ∃ r ∈ vs', b ∈ F r) as r Fn v) :
    ArgsRun c σ a w F G (.fn as r :: ps) (v :: vals) vs0 ws (Fn, x) put vs' sl fp where
  args := ⟨v, vals, rfl, hp, hc, h.args⟩
  sub := fun r hr => h.sub r (hv0 r hr)
  new := fun r hr => (h.new r hr).elim (hv r) .inr
  sln := h.sln
  slo := h.slo
  fpn := h.fpn
  fps := h.fps
  back := fun io m σ0 σ' h0 hr => by
    obtain ⟨σ2, h1, h2, h3, h4⟩ := h.back io m σ0 σ' h0 hr
    refine ⟨σ2, h1, h2, h3, fun w2 fio k1 k2 k3 k4 k5 => ?_⟩
    obtain ⟨v, vs1, e, k3⟩ := k3
    simp only [List.cons.injEq] at e
    obtain ⟨rfl, rfl⟩ := e
    exact h4 w2 fio k1 k2 k3 k4 k5

theorem ArgsRun.io {c : Cx} {σ : St} {a : Act} {w : World} {X : List Nat} {F : Nat → List Nat} {G : Nat → Value} (hsim : Sim c σ a w X F G) {ps : List PK} {vals : List Value} {vs ws : List Nat} {x : Args ps} {put : IoL ps → Mp → Mp} {vs' sl fp : List Nat} {s : Nat} (h : ArgsRun c σ a w F G ps vals vs (s :: ws) x put vs' sl fp)
    (hws : s ∉ ws) (hvs : s ∉ vs) {t : Ty} {g : Tag} {y : El t} {b : Nat} {cs : List Value} {f : List Nat} (hv : val c a G s = .pointer (some ⟨b, 0, none⟩)) (hF : F s = b :: f) (hb : isBox w b cs) (ht : TR w (KI c.K) g t y cs f) :
    ArgsRun c σ a w F G (.io t g :: ps) (.pointer (some ⟨b, 0, none⟩) :: vals) vs ws (y, x) (fun (z : El t × IoL ps) m => .set s (.box t z.1 g) (put z.2 m)) vs' (s :: sl) ((b :: f) ++ fp) := by
  have hfh : ∀ q ∈ b :: f, q ∈ F s := fun q hq => by rw [hF]; exact hq
  have hfn : (b :: f).Nodup := by rw [← hF]; exact hsim.nodup s
  obtain ⟨p1, p2, p3, p4, p5⟩ := h.parts hsim hws hvs hfh hfn
  refine { args := ⟨b, cs, f, vals, fp, rfl, rfl, hb, ht, h.args⟩, sub := h.sub, new := p5, sln := p1, slo := p2, fpn := p3, fps := p4, back := ?_ }
  intro io m σ0 σ' h0 hr
  obtain ⟨σ2, h1, h2, h3, h4⟩ := back_cons hsim h (t := t) (avz := fun z => some (.box t z g)) (fh := b :: f) hfh
    (Head := fun w2 z fh2 => ∃ b' cs f', Value.pointer (some ⟨b, 0, none⟩) = .pointer (some ⟨b', 0, none⟩) ∧ fh2 = b' :: f' ∧ isBox w2 b' cs ∧ TR w2 (KI c.K) g t z cs f')
    (fun w2 z fh2 av k1 k2 k3 k4 k5 k6 => by
      obtain ⟨b', cs', f', e1, e2, e3, e4⟩ := k5
      simp only [Option.some.injEq] at k6
      subst k6
      refine ⟨fh2, k3, ⟨fun σ vl F G => ⟨b', cs', f', by rw [hv, e1], e3, TR_mono KI_I _ _ _ _ _ e4, e2⟩⟩, fun q hq => .inr hq⟩)
    io.1 io.2 m σ0 σ' h0 hr
  refine ⟨σ2, h1, h2, h3, fun w2 fio k1 k2 k3 k4 k5 => ?_⟩
  obtain ⟨b', cs', f', vs1, fp', e, rfl, m1, m2, m3⟩ := k3
  simp only [List.cons.injEq] at e
  obtain ⟨e, rfl⟩ := e
  exact h4 w2 (b' :: f') fp' k1 k2 ⟨b', cs', f', e, rfl, m1, m2⟩ m3 (by simpa using k4) (by simpa using k5)

theorem ArgsRun.ios {c : Cx} {σ : St} {a : Act} {w : World} {X : List Nat} {F : Nat → List Nat} {G : Nat → Value} (hsim : Sim c σ a w X F G) {ps : List PK} {vals : List Value} {vs ws : List Nat} {x : Args ps} {put : IoL ps → Mp → Mp} {vs' sl fp : List Nat} {s : Nat} (h : ArgsRun c σ a w F G ps vals vs (s :: ws) x put vs' sl fp)
    (hws : s ∉ ws) (hvs : s ∉ vs) {t : Ty} {y : El t} {d : Nat} {cs : List Value} {fh : List Nat} (hfh : ∀ b ∈ fh, b ∈ F s) (hfn : fh.Nodup) (ht : RO w d t y cs fh) (avz : El t → Option AV)
    (hH : ∀ w2 z fh2 av, (∀ b, c.Ip b → w2.heap[b]? = w.heap[b]?) → (∀ b ∈ F s, b ∉ fh → w2.heap[b]? = w.heap[b]?) → fh2.Nodup → (∀ b ∈ F s, b ∉ fh → b ∉ fh2) → (∃ d, RO w2 d t z cs fh2) → avz z = some av → ∃ f2, f2.Nodup ∧ Back c w2 (val c a G s) f2 av ∧ ∀ b ∈ f2, (b ∈ F s ∧ b ∉ fh) ∨ b ∈ fh2) :
    ArgsRun c σ a w F G (.ios t :: ps) (mkV t cs :: vals) vs ws (y, x) (fun (z : El t × IoL ps) m => match avz z.1 with | some av => .set s av (put z.2 m) | none => .fail) vs' (s :: sl) (fh ++ fp) := by
  obtain ⟨p1, p2, p3, p4, p5⟩ := h.parts hsim hws hvs hfh hfn
  refine { args := ⟨d, cs, fh, vals, fp, rfl, rfl, ht, h.args⟩, sub := h.sub, new := p5, sln := p1, slo := p2, fpn := p3, fps := p4, back := ?_ }
  intro io m σ0 σ' h0 hr
  obtain ⟨σ2, h1, h2, h3, h4⟩ := back_cons hsim h (t := t) (avz := avz) (fh := fh) hfh (Head := fun w2 z fh2 => ∃ d, RO w2 d t z cs fh2) hH io.1 io.2 m σ0 σ' h0 hr
  refine ⟨σ2, h1, h2, h3, fun w2 fio k1 k2 k3 k4 k5 => ?_⟩
  obtain ⟨d', cs', f', vs1, fp', e, rfl, m1, m2⟩ := k3
  simp only [List.cons.injEq] at e
  obtain ⟨e, rfl⟩ := e
  have := mkV_inj e (RO_len _ _ _ _ _ ht) (RO_len _ _ _ _ _ m1)
  subst this
  exact h4 w2 f' fp' k1 k2 ⟨d', m1⟩ m2 k4 k5

/-- A written part of a slot, back in its place. -/
theorem ios_part {c : Cx} {σ : St} {a : Act} {w : World} {X : List Nat} {F : Nat → List Nat} {G : Nat → Value} (hsim : Sim c σ a w X F G) {s : Nat} {t : Ty} {x : El t} {up : Up} {tr : Ty} {xr : El tr} {gr gr' : Tag} {A A' : Option Addr} {rc cs : List Value} {fb : List Nat} {S : Nat → Prop} {pb : List Nat}
    (hF : F s = pb ++ fb) (htr : TR w c.I gr tr xr rc fb) (hch : Chain up t x tr xr) (hpt : PathTo w S tr A rc (stepsOf up) A' cs)
    (hwr : wrtT tr gr (stepsOf up) = true) (ho : ownT t (tagAt gr (stepsOf up)) = true) (hset : setT tr gr (stepsOf up) .own = some gr') :
    ∃ d fh, RO w d t x cs fh ∧ (∀ b ∈ fh, b ∈ F s) ∧ fh.Nodup ∧ (∀ b ∈ pb, b ∉ fh) ∧ ∀ w2 z fh2 zr, (∀ b, c.Ip b → w2.heap[b]? = w.heap[b]?) → (∀ b ∈ F s, b ∉ fh → w2.heap[b]? = w.heap[b]?) → fh2.Nodup → (∀ b ∈ F s, b ∉ fh → b ∉ fh2) → (∃ d, RO w2 d t z cs fh2) →
      (match updUp up t z with | some ⟨tr', xr'⟩ => castE tr' tr xr' | none => none) = some zr → ∃ f2, (pb ++ f2).Nodup ∧ TR w2 c.I gr' tr zr rc f2 ∧ ∀ b ∈ pb ++ f2, (b ∈ F s ∧ b ∉ fh) ∨ b ∈ fh2 := by
  have hn := hsim.nodup s
  rw [hF] at hn
  have hn' := List.nodup_append.1 hn
  obtain ⟨f', pre, post, rfl, ⟨d, hro⟩, hupd⟩ := lens_mem _ _ _ _ _ _ _ _ _ _ _ htr hn'.2.1 hch.get hpt hwr ho hset
  have hm := List.nodup_append.1 hn'.2.1
  have hm2 := List.nodup_append.1 hm.2.1
  have hpbf : ∀ b ∈ pb, b ∉ f' := fun b hb hb' => hn'.2.2 b hb b (by simp [hb']) rfl
  have hpp : ∀ b ∈ pre ++ post, b ∉ f' := by
    intro b hb hb'
    rcases List.mem_append.1 hb with hb | hb
    · exact hm.2.2 b hb b (by simp [hb']) rfl
    · exact hm2.2.2 b hb' b hb rfl
  refine ⟨d, f', hro, fun b hb => by rw [hF]; simp [hb], hm2.1, hpbf, ?_⟩
  intro w2 z fh2 zr k1 k2 k3 k4 k5 k6
  have hin : ∀ b, (b ∈ pb ∨ b ∈ pre ++ post) → b ∈ F s ∧ b ∉ f' := by
    rintro b (hb | hb)
    · exact ⟨by rw [hF]; simp [hb], hpbf b hb⟩
    · refine ⟨?_, hpp b hb⟩
      rw [hF]
      simp only [List.mem_append] at hb ⊢
      rcases hb with hb | hb
      · exact .inr (.inl hb)
      · exact .inr (.inr (.inr hb))
  cases hu : updUp up t z with
  | none => simp [hu] at k6
  | some p =>
    obtain ⟨tr', xr'⟩ := p
    simp only [hu] at k6
    obtain ⟨z2, hput, e⟩ := hch.put _ _ _ _ _ _ _ _ hu
    have e2 := castE_eq k6
    rw [e] at e2
    simp only [Sigma.mk.injEq, heq_eq_eq, true_and] at e2
    subst e2
    refine ⟨pre ++ (fh2 ++ post), ?_, hupd w2 z fh2 z2 (fun k b hb => k1 b (hsim.I_ip k b hb)) (fun b hb => k2 b (hin b (.inr hb)).1 (hin b (.inr hb)).2) k5 hput, ?_⟩
    · have out : ∀ b, (b ∈ pb ∨ b ∈ pre ++ post) → b ∉ fh2 := fun b hb => k4 b (hin b hb).1 (hin b hb).2
      refine List.nodup_append.2 ⟨hn'.1, List.nodup_append.2 ⟨hm.1, List.nodup_append.2 ⟨k3, hm2.2.1, ?_⟩, ?_⟩, ?_⟩
      · rintro b hb b' hb' rfl
        exact out b (.inr (by simp [hb'])) hb
      · rintro b hb b' hb' rfl
        rcases List.mem_append.1 hb' with hb' | hb'
        · exact out b (.inr (by simp [hb])) hb'
        · exact hm.2.2 b hb b (by simp [hb']) rfl
      · rintro b hb b' hb' rfl
        simp only [List.mem_append] at hb'
        rcases hb' with hb' | hb' | hb'
        · exact hn'.2.2 b hb b (by simp [hb']) rfl
        · exact out b (.inl hb) hb'
        · exact hn'.2.2 b hb b (by simp [hb']) rfl
    · intro b hb
      simp only [List.mem_append] at hb
      rcases hb with hb | hb | hb | hb
      · exact .inl (hin b (.inl hb))
      · exact .inl (hin b (.inr (by simp [hb])))
      · exact .inr hb
      · exact .inl (hin b (.inr (by simp [hb])))
end Net

/- Arguments of a call: the run. -/
namespace Net
open Go
set_option linter.unusedVariables false
set_option linter.unusedSectionVars false

/-- What is asked of the tags of parameters. -/
def PsOK (ps : List PK) : Prop := ∀ p ∈ ps, match p with | .io _ g => noIp g = true | _ => True

theorem none__ok : ∀ (ws : List Nat) (q : List (Nat × Nat)), argsK.none_ ws q = true → ∀ z ∈ q, z.1 ∉ ws
  | ws, [], _, z, hz => by simp at hz
  | ws, p :: q, h, z, hz => by
    simp only [argsK.none_, Bool.and_eq_true] at h
    rcases List.mem_cons.1 hz with rfl | hz
    · exact isIo_not h.1
    · exact none__ok ws q h.2 z hz
theorem alive_run : ∀ (q : List (Nat × Nat)) (k : Mp) (σ σ' : St), (argsK.alive q k).run σ = some σ' → (∀ z ∈ q, z.2 = (σ z.1).2) ∧ k.run σ = some σ'
  | [], k, σ, σ', h => ⟨by simp, h⟩
  | (s, n) :: q, k, σ, σ', h => by
    simp only [argsK.alive, Mp.run] at h
    obtain ⟨h1, h2⟩ := chk_run h
    obtain ⟨h3, h4⟩ := alive_run q k σ σ' h2
    refine ⟨fun z hz => ?_, h4⟩
    rcases List.mem_cons.1 hz with rfl | hz
    · exact Nat.eq_of_beq_eq_true h1
    · exact h3 z hz
theorem chk3 {a b c : Bool} (h : (a && b && c) = true) : a = true ∧ b = true ∧ c = true := by simp only [Bool.and_eq_true] at h; exact ⟨h.1.1, h.1.2, h.2⟩

theorem argsK_run {c : Cx} (he : EnvOK c) {σ σ' : St} {a : Act} {w : World} {X : List Nat} {F : Nat → List Nat} {G : Nat → Value} (h : Sim c σ a w X F G) : ∀ (ps : List PK) (os : List Operand) (vs ws : List Nat) (k : Args ps → (IoL ps → Mp → Mp) → Mp), PsOK ps → (argsK c.E ps os vs ws k).run σ = some σ' →
    ∃ x put vs' sl fp, (k x put).run σ = some σ' ∧ ArgsRun c σ a w F G ps (os.map a.eval) vs ws x put vs' sl fp
  | [], [], vs, ws, k, hps, hr => ⟨(), fun _ m => m, vs, [], [], hr, { args := ⟨rfl, rfl⟩, sub := fun _ h => h, new := fun _ h => .inl h, sln := List.nodup_nil, slo := by simp, fpn := List.nodup_nil, fps := by simp, back := fun io m σ0 σ' _ hr => ⟨σ0, hr, fun _ _ => rfl, by simp, fun w2 fio _ _ _ _ _ => ⟨F, by simp, by simp⟩⟩ }⟩
  | .val t esc :: ps, o :: os, vs, ws, k, hps, hr => by
    have hps' : PsOK ps := fun p hp => hps p (by simp [hp])
    obtain ⟨u, x, q, hr, hpast, hlive, d, cs, h1, h2⟩ := viewK_run he h hr
    cases hc : castE u t x with
    | none => simp [hc, Mp.run] at hr
    | some y =>
      simp only [hc] at hr
      obtain ⟨e, hy⟩ := cast_some hc
      subst e
      have hy : x = y := hy.symm
      subst hy
      cases hp : plainT u with
      | true =>
        simp only [hp] at hr
        obtain ⟨x', put, vs', sl, fp, hr, hA⟩ := argsK_run he h ps os vs ws _ hps' hr
        have hpv := PV.of_RI hp h2
        refine ⟨_, _, vs', sl, fp, hr, ?_⟩
        rw [List.map_cons, h1]
        obtain ⟨d', hd'⟩ := hpv w
        exact hA.read (fun _ h => h) (fun _ h => .inl h) (RO_view d' _ _ _ [] (by simp) hd')
      | false =>
        cases q with
        | slot r m =>
          simp only [hp] at hr
          obtain ⟨hch, hr⟩ := chk_run hr
          simp only [Bool.and_eq_true, Bool.not_eq_true'] at hch
          obtain ⟨he1, hw1⟩ := hch
          subst he1
          obtain ⟨x', put, vs', sl, fp, hr, hA⟩ := argsK_run he h ps os (r :: vs) ws _ hps' hr
          refine ⟨_, _, vs', sl, fp, hr, ?_⟩
          rw [List.map_cons, h1]
          refine hA.read (fun _ h => by simp [h]) (fun z hz => ?_) (d := d) ?_
          · rcases List.mem_cons.1 hz with rfl | hz
            · exact .inr (isIo_not (by simpa using hw1))
            · exact .inl hz
          · exact RI_same (fun b hb => by
              rcases hb with hb | hb
              · exact .inl hb
              · exact .inr ⟨r, hA.sub r (by simp), hb⟩) (fun _ _ => rfl) _ _ _ _ h2
        | k =>
          simp only [hp] at hr
          obtain ⟨x', put, vs', sl, fp, hr, hA⟩ := argsK_run he h ps os vs ws _ hps' hr
          refine ⟨_, _, vs', sl, fp, hr, ?_⟩
          rw [List.map_cons, h1]
          refine hA.read (fun _ h => h) (fun _ h => .inl h) (d := d) ?_
          cases esc with
          | true => exact h2
          | false => exact RI_same (fun b hb => .inl (h.kip b hb)) (fun _ _ => rfl) _ _ _ _ h2
        | ip =>
          simp only [hp] at hr
          obtain ⟨hch, hr⟩ := chk_run hr
          simp only [Bool.not_eq_true'] at hch
          subst hch
          obtain ⟨x', put, vs', sl, fp, hr, hA⟩ := argsK_run he h ps os vs ws _ hps' hr
          refine ⟨_, _, vs', sl, fp, hr, ?_⟩
          rw [List.map_cons, h1]
          exact hA.read (fun _ h => h) (fun _ h => .inl h) (d := d) (RI_same (fun b hb => .inl hb) (fun _ _ => rfl) _ _ _ _ h2)
  | .io t g :: ps, o :: os, vs, ws, k, hps, hr => by
    have hps' : PsOK ps := fun p hp => hps p (by simp [hp])
    have hg : noIp g = true := hps (.io t g) (by simp)
    obtain ⟨av, s0, n, hop, hr⟩ := rd_run he h hr
    have hsv := hop.sv
    cases av with
    | ptr u x s m up =>
      cases up with
      | cons z up => simp [Mp.run] at hr
      | nil =>
        simp only [Mp.run] at hr
        obtain ⟨hch, hr⟩ := chk_run hr
        obtain ⟨hm, hw1, hv1⟩ := chk3 hch
        have hm := Nat.eq_of_beq_eq_true hm
        obtain ⟨hp, hl⟩ := hsv
        obtain ⟨ad, cs, tr, xr, gr, A, rc, fr, k1, k2, k3, k4⟩ := hl hm
        generalize hav : (σ s).1 = avr at hr k2
        obtain ⟨Fr, hFr⟩ : ∃ Fr, Fr = F s := ⟨_, rfl⟩
        rw [← hFr] at k2
        cases k2 with
        | own _ _ => simp [Mp.run] at hr
        | @box tr xr gr rc fr b m1 m2 m3 =>
          cases hc : castE u t x with
          | none => simp [hc, Mp.run] at hr
          | some y =>
            simp only [hc] at hr
            obtain ⟨e, hy⟩ := cast_some hc
            subst e
            have hy : x = y := hy.symm
            subst hy
            obtain ⟨hte, hr⟩ := chk_run hr
            simp only [Chain, Sigma.mk.injEq] at k3
            obtain ⟨rfl, k3⟩ := k3
            have k3 := eq_of_heq k3
            subst k3
            have k4 : some ad = some ⟨b, 0, none⟩ := by
              have : stepsOf [] = [] := rfl
              rw [this] at k4
              cases u <;> exact k4.1
            obtain ⟨x', put, vs', sl, fp, hr, hA⟩ := argsK_run he h ps os vs (s :: ws) _ hps' hr
            refine ⟨_, _, vs', s :: sl, (b :: fr) ++ fp, hr, ?_⟩
            rw [List.map_cons, k1]
            simp only [Option.some.injEq] at k4
            subst k4
            exact hA.io h (isIo_not hw1) (isIo_not hv1) m1 hFr.symm m2 (tagEq_TR hte hg m3)
    | _ => simp [Mp.run] at hr
  | .ios t :: ps, o :: os, vs, ws, k, hps, hr => by
    have hps' : PsOK ps := fun p hp => hps p (by simp [hp])
    obtain ⟨av, s0, n, hop, hr⟩ := rd_run he h hr
    have hsv := hop.sv
    cases av with
    | own u x g =>
      cases s0 with
      | none => simp [Mp.run] at hr
      | some s =>
        simp only at hr
        cases hc : castE u t x with
        | none => simp [hc, Mp.run] at hr
        | some y =>
          simp only [hc] at hr
          obtain ⟨e, hy⟩ := cast_some hc
          subst e
          have hy : x = y := hy.symm
          subst hy
          obtain ⟨hch, hr⟩ := chk_run hr
          obtain ⟨ho, hw1, hv1⟩ := chk3 hch
          obtain ⟨h1, h2, h3, _⟩ := hop.at_ s rfl
          obtain ⟨cs, k1, k2⟩ := hsv
          obtain ⟨d, hd⟩ := TR_own _ _ _ _ _ ho (ownT_alive _ _ ho) k2
          obtain ⟨x', put, vs', sl, fp, hr, hA⟩ := argsK_run he h ps os vs (s :: ws) _ hps' hr
          refine ⟨_, _, vs', s :: sl, F s ++ fp, hr, ?_⟩
          rw [List.map_cons, k1]
          refine hA.ios h (isIo_not hw1) (isIo_not hv1) (fh := F s) (fun b hb => hb) (h.nodup s) hd (fun z => some (.own u z .own)) ?_
          intro w2 z fh2 av q1 q2 q3 q4 q5 q6
          simp only [Option.some.injEq] at q6
          subst q6
          obtain ⟨d2, q5⟩ := q5
          exact ⟨fh2, q3, ⟨fun σ vl F G => ⟨cs, by rw [← h3, k1], TR_of_own q5⟩⟩, fun b hb => .inr hb⟩
    | al u x s m up ex =>
      cases ex with
      | false => simp [Mp.run] at hr
      | true =>
        simp only [Mp.run] at hr
        obtain ⟨hch, hr⟩ := chk_run hr
        obtain ⟨hm, hw1, hv1⟩ := chk3 hch
        have hm := Nat.eq_of_beq_eq_true hm
        obtain ⟨hp, hl⟩ := hsv
        obtain ⟨cs, tr, xr, gr, A, rc, fr, k1, k2, k3, k4⟩ := hl hm
        obtain ⟨k5, A', k6⟩ := k4 rfl
        generalize hav : (σ s).1 = avr at hr k2
        obtain ⟨Fr, hFr⟩ : ∃ Fr, Fr = F s := ⟨_, rfl⟩
        rw [← hFr] at k2
        cases k2 with
        | @own tr xr gr rc fr m1 m2 =>
          cases hc : castE u t x with
          | none => simp [hc, Mp.run] at hr
          | some y =>
            simp only [hc] at hr
            obtain ⟨e, hy⟩ := cast_some hc
            subst e
            have hy : x = y := hy.symm
            subst hy
            cases hset : setT tr gr (stepsOf up) .own with
            | none => simp [hset, Mp.run] at hr
            | some gr' =>
              simp only [hset] at hr
              obtain ⟨hch, hr⟩ := chk_run hr
              simp only [Bool.and_eq_true] at hch
              obtain ⟨x', put, vs', sl, fp, hr, hA⟩ := argsK_run he h ps os vs (s :: ws) _ hps' hr
              obtain ⟨d, fh, n1, n2, n3, _, n4⟩ := ios_part h (pb := []) (by rw [← hFr]; rfl) m2 k5 k6 hch.1 hch.2 hset
              refine ⟨_, _, vs', s :: sl, fh ++ fp, hr, ?_⟩
              rw [List.map_cons, k1]
              refine hA.ios h (isIo_not hw1) (isIo_not hv1) n2 n3 n1 (fun z => match updUp up u z with | some ⟨tr', xr'⟩ => (match castE tr' tr xr' with | some w => some (AV.own tr w gr') | none => none) | none => none) ?_
              intro w2 z fh2 av q1 q2 q3 q4 q5 q6
              cases hu : updUp up u z with
              | none => simp [hu] at q6
              | some p =>
                obtain ⟨tr', xr'⟩ := p
                simp only [hu] at q6
                cases hz : castE tr' tr xr' with
                | none => simp [hz] at q6
                | some zr =>
                  simp only [hz, Option.some.injEq] at q6
                  subst q6
                  obtain ⟨f2, e1, e2, e3⟩ := n4 w2 z fh2 zr q1 q2 q3 q4 q5 (by simp only [hu]; exact hz)
                  exact ⟨f2, by simpa using e1, ⟨fun σ vl F G => ⟨rc, m1, e2⟩⟩, by simpa using e3⟩
        | @box tr xr gr rc fr b m1 m2 m3 =>
          cases hc : castE u t x with
          | none => simp [hc, Mp.run] at hr
          | some y =>
            simp only [hc] at hr
            obtain ⟨e, hy⟩ := cast_some hc
            subst e
            have hy : x = y := hy.symm
            subst hy
            cases hset : setT tr gr (stepsOf up) .own with
            | none => simp [hset, Mp.run] at hr
            | some gr' =>
              simp only [hset] at hr
              obtain ⟨hch, hr⟩ := chk_run hr
              simp only [Bool.and_eq_true] at hch
              obtain ⟨x', put, vs', sl, fp, hr, hA⟩ := argsK_run he h ps os vs (s :: ws) _ hps' hr
              obtain ⟨d, fh, n1, n2, n3, n5, n4⟩ := ios_part h (pb := [b]) (by rw [← hFr]; rfl) m3 k5 k6 hch.1 hch.2 hset
              refine ⟨_, _, vs', s :: sl, fh ++ fp, hr, ?_⟩
              rw [List.map_cons, k1]
              refine hA.ios h (isIo_not hw1) (isIo_not hv1) n2 n3 n1 (fun z => match updUp up u z with | some ⟨tr', xr'⟩ => (match castE tr' tr xr' with | some w => some (AV.box tr w gr') | none => none) | none => none) ?_
              intro w2 z fh2 av q1 q2 q3 q4 q5 q6
              cases hu : updUp up u z with
              | none => simp [hu] at q6
              | some p =>
                obtain ⟨tr', xr'⟩ := p
                simp only [hu] at q6
                cases hz : castE tr' tr xr' with
                | none => simp [hz] at q6
                | some zr =>
                  simp only [hz, Option.some.injEq] at q6
                  subst q6
                  obtain ⟨f2, e1, e2, e3⟩ := n4 w2 z fh2 zr q1 q2 q3 q4 q5 (by simp only [hu]; exact hz)
                  refine ⟨b :: f2, by simpa using e1, ⟨fun σ vl F G => ⟨b, rc, f2, m1, isBox_same (q2 b ?_ (n5 b (by simp))) m2, e2, rfl⟩⟩, by simpa using e3⟩
                  rw [← hFr]; simp
    | _ => simp [Mp.run] at hr
  | .fn as r :: ps, o :: os, vs, ws, k, hps, hr => by
    have hps' : PsOK ps := fun p hp => hps p (by simp [hp])
    obtain ⟨av, s0, n, hop, hr⟩ := rd_run he h hr
    have hsv := hop.sv
    cases av with
    | clo as' r' Fn q =>
      simp only at hr
      cases hd1 : decEq as' as with
      | isFalse _ => simp [hd1, Mp.run] at hr
      | isTrue e1 =>
        cases hd2 : decEq r' r with
        | isFalse _ => simp [hd1, hd2, Mp.run] at hr
        | isTrue e2 =>
          simp only [hd1, hd2] at hr
          subst e1
          subst e2
          obtain ⟨hal, hr⟩ := alive_run _ _ _ _ hr
          obtain ⟨hno, hr⟩ := chk_run hr
          obtain ⟨x', put, vs', sl, fp, hr, hA⟩ := argsK_run he h ps os (q.map (·.1) ++ vs) ws _ hps' hr
          obtain ⟨hp, hC⟩ := hsv.2 hal
          refine ⟨_, _, vs', sl, fp, hr, ?_⟩
          rw [List.map_cons]
          refine hA.fn (fun z hz => by simp [hz]) (fun z hz => ?_) hp (CloOK_same (fun b hb => ?_) (fun _ _ => rfl) (Nat.le_refl _) hC)
          · rcases List.mem_append.1 hz with hz | hz
            · obtain ⟨p, hp, rfl⟩ := List.mem_map.1 hz
              exact .inr (none__ok _ _ hno p hp)
            · exact .inl hz
          · rcases hb with hb | ⟨z, hz, hb⟩
            · exact .inl hb
            · exact .inr ⟨z.1, hA.sub _ (by simp only [List.mem_append, List.mem_map]; exact .inl ⟨z, hz, rfl⟩), hb⟩
    | _ => simp [Mp.run] at hr
  | .cp _ :: ps, [], vs, ws, k, hps, hr | .cp _ :: ps, _ :: _, vs, ws, k, hps, hr | .val _ _ :: _, [], vs, ws, k, hps, hr | .io _ _ :: _, [], vs, ws, k, hps, hr | .ios _ :: _, [], vs, ws, k, hps, hr | .fn _ _ :: _, [], vs, ws, k, hps, hr | [], _ :: _, vs, ws, k, hps, hr => by
    simp [argsK, Mp.run] at hr
end Net

/- Calls. -/
namespace Net
open Go
set_option linter.unusedVariables false
set_option linter.unusedSectionVars false

theorem exec_call {P : Program} {a : Act} {o : Oper} {cl : Call} (ho : o.op = .call cl) {x : Operand} (hx : cl.callee = .value x) {n : Nat} {caps : Array Value} (hv : a.eval x = .func (.func n) #[] caps) (hc : Callable P n) (w : World) :
    (execOp a.eval o).run P w = .ok (.enter n (cl.args.map a.eval ++ caps)) w := by
  obtain ⟨fn, hf, hn, hb⟩ := hc
  have h1 : (resolve a.eval cl o.type).run P w = .ok { target := .fn (.func n) caps, args := cl.args.map a.eval } w := by
    simp [resolve, hx, hv, Deferred.ofValue]
  have h2 : (callFunc n (cl.args.map a.eval ++ caps)).run P w = .ok (.enter n (cl.args.map a.eval ++ caps)) w := by
    have hn' : ¬ (fn.name = "runtime.NumGoroutine") := by simpa using hn
    have hb' : fn.body ≠ none := by intro e; rw [e] at hb; simp at hb
    simp [callFunc, hf, hn', hb']
  simp only [execOp, ho, Sem.run_bind, h1, Result.andThen_ok]
  exact h2

/-- The call of a function: what is handed back, and the slots that were written. -/
theorem call_back {c : Cx} {σ σ2 : St} {a : Act} {w w' : World} {F : Nat → List Nat} {G : Nat → Value} (h : Sim c σ a w [] F G) {sg : Sig} {vals : List Value} {x : Args sg.ps} {put : IoL sg.ps → Mp → Mp} {vs' sl fp : List Nat} (hA : ArgsRun c σ a w F G sg.ps vals [] [] x put vs' sl fp)
    {o : IoL sg.ps × RL sg.rs} {rv : List Value} {fr fio : List Nat} (hio : IoOK w' c.K sg.ps o.1 vals fio) (hnd : (fr ++ fio).Nodup) (hin : ∀ b ∈ fr ++ fio, b < w'.heap.size ∧ (b ∈ fp ∨ w.heap.size ≤ b)) (hfrm : Frm w w' fp)
    (h2 : ∀ r, r ∉ sl → σ2 r = σ r) (h3 : ∀ s ∈ sl, (σ s).2 < (σ2 s).2)
    (h4 : ∀ w2 fio, (∀ b, c.Ip b → w2.heap[b]? = w.heap[b]?) → (∀ s ∈ sl, ∀ b ∈ F s, b ∉ fp → w2.heap[b]? = w.heap[b]?) → IoOK w2 c.K sg.ps o.1 vals fio → fio.Nodup → (∀ s ∈ sl, ∀ b ∈ F s, b ∉ fp → b ∉ fio) →
      ∃ F2 : Nat → List Nat, (∀ s ∈ sl, (F2 s).Nodup ∧ Back c w2 (val c a G s) (F2 s) (σ2 s).1 ∧ ∀ b ∈ F2 s, (b ∈ F s ∧ b ∉ fp) ∨ b ∈ fio) ∧ (∀ s ∈ sl, ∀ s' ∈ sl, s ≠ s' → ∀ b ∈ F2 s, b ∉ F2 s')) :
    ∃ F', Sim c σ2 a w' fr F' G := by
  have hnd' := List.nodup_append.1 hnd
  have hfpM : ∀ b ∈ fp, ¬ c.Ip b := by
    intro b hb
    obtain ⟨s, hs, hb2⟩ := hA.fps b hb
    exact Cx.not_ip (h.rng s b hb2).2
  have hFs : ∀ s, ∀ b ∈ F s, b < w.heap.size := fun s b hb => (h.rng s b hb).1
  have hnew : ∀ b ∈ fr ++ fio, ∀ s, b ∈ F s → b ∉ fp → False := by
    intro b hb s hbs hn
    rcases (hin b hb).2 with h1 | h1
    · exact hn h1
    · have := hFs s b hbs; omega
  obtain ⟨F2, m1, m2⟩ := h4 w' fio (fun b hb => hfrm.block b (Nat.lt_of_lt_of_le hb.1 h.grow) (fun h1 => hfpM b h1 hb)) (fun s hs b hb hn => hfrm.block b (hFs s b hb) hn) hio hnd'.2.1 (fun s hs b hb hn hb' => hnew b (by simp [hb']) s hb hn)
  have hF'a : ∀ s ∈ sl, (fun r => if r ∈ sl then F2 r else F r) s = F2 s := fun s hs => if_pos hs
  refine ⟨fun r => if r ∈ sl then F2 r else F r, h.multi (fun r => r ∈ sl) h2 h3 (fun _ _ => rfl) (fun r hr => if_neg hr) ?_ (fun _ _ _ _ _ => rfl) hfrm.size hfrm.os hfrm.tape hfrm.output h.defers h.size (fun _ _ => rfl) ?_ ?_ ?_ hnd'.1 ?_ ?_ ?_⟩
  · intro b hb hns _
    refine hfrm.block b hb (fun hbf => ?_)
    obtain ⟨s, hs, hb2⟩ := hA.fps b hbf
    exact hns s hs hb2
  · intro s hs
    simp only [if_pos hs]
    exact (m1 s hs).1
  · intro s hs b hb
    simp only [if_pos hs] at hb
    rcases (m1 s hs).2.2 b hb with ⟨q1, q2⟩ | q1
    · exact ⟨Nat.lt_of_lt_of_le (hFs s b q1) hfrm.size, .inr (.inl ⟨s, hs, q1⟩)⟩
    · have := hin b (by simp [q1])
      refine ⟨this.1, ?_⟩
      rcases this.2 with q2 | q2
      · obtain ⟨r, hr, hb2⟩ := hA.fps b q2
        exact .inr (.inl ⟨r, hr, hb2⟩)
      · exact .inr (.inr q2)
  · intro s s' hs hs' hne b hb
    simp only [if_pos hs] at hb
    simp only [if_pos hs']
    exact m2 s hs s' hs' hne b hb
  · intro b hb
    have := hin b (by simp [hb])
    refine ⟨this.1, ?_⟩
    rcases this.2 with q2 | q2
    · obtain ⟨r, hr, hb2⟩ := hA.fps b q2
      exact .inr (.inl ⟨r, hr, hb2⟩)
    · exact .inr (.inr q2)
  · intro s hs b hb hbr
    simp only [if_pos hs] at hb
    rcases (m1 s hs).2.2 b hb with ⟨q1, q2⟩ | q1
    · exact hnew b (by simp [hbr]) s q1 q2
    · exact hnd'.2.2 b hbr b q1 rfl
  · intro s hs
    simp only [if_pos hs]
    exact (m1 s hs).2.1.sv _ _ _ _

def RsOK (rs : List RK) : Prop := ∀ r ∈ rs, match r with | .v t g => noIp g = true ∧ aliveT t g = true | .pb t g => noIp g = true ∧ aliveT t g = true

/-- The parts of a tuple are laid in slots. -/
theorem resTup_run {c : Cx} {w : World} : ∀ (rs : List RK) (x : RL rs) (s : Nat) (m : Mp) (σ σ' : St) (rv : List Value) (fr : List Nat), RsOK rs → (resTup rs x s m).run σ = some σ' → ResL w c.K rs x rv fr → fr.Nodup →
    ∃ (σ3 : St) (F3 : Nat → List Nat), m.run σ3 = some σ' ∧ (∀ r, (r < s ∨ s + rs.length ≤ r) → σ3 r = σ r) ∧ (∀ i, i < rs.length → (σ (s + i)).2 < (σ3 (s + i)).2) ∧ rv.length = rs.length ∧
      (∀ i, i < rs.length → (F3 (s + i)).Nodup ∧ Back c w (rv.getD i undef) (F3 (s + i)) (σ3 (s + i)).1 ∧ ∀ b ∈ F3 (s + i), b ∈ fr) ∧ (∀ i j, i < rs.length → j < rs.length → i ≠ j → ∀ b ∈ F3 (s + i), b ∉ F3 (s + j)) := by
  intro rs
  induction rs with
  | nil =>
    intro x s m σ σ' rv fr _ hr hR _
    obtain ⟨rfl, rfl⟩ := hR
    exact ⟨σ, fun _ => [], hr, fun _ _ => rfl, fun i hi => by simp at hi, rfl, fun i hi => by simp at hi, fun i j hi => by simp at hi⟩
  | cons r rs ih =>
    have key : ∀ (av : AV) (y : RL rs) (v : Value) (rv : List Value) (f fr : List Nat) (s : Nat) (m : Mp) (σ σ' : St), RsOK rs → (Mp.set s av (resTup rs y (s + 1) m)).run σ = some σ' → Back c w v f av → ResL w c.K rs y rv fr → (f ++ fr).Nodup →
        ∃ (σ3 : St) (F3 : Nat → List Nat), m.run σ3 = some σ' ∧ (∀ r, (r < s ∨ s + (rs.length + 1) ≤ r) → σ3 r = σ r) ∧ (∀ i, i < rs.length + 1 → (σ (s + i)).2 < (σ3 (s + i)).2) ∧ (v :: rv).length = rs.length + 1 ∧
          (∀ i, i < rs.length + 1 → (F3 (s + i)).Nodup ∧ Back c w ((v :: rv).getD i undef) (F3 (s + i)) (σ3 (s + i)).1 ∧ ∀ b ∈ F3 (s + i), b ∈ f ++ fr) ∧ (∀ i j, i < rs.length + 1 → j < rs.length + 1 → i ≠ j → ∀ b ∈ F3 (s + i), b ∉ F3 (s + j)) := by
      intro av y v rv f fr s m σ σ' hrs hr hb hR hn
      simp only [Mp.run] at hr
      have hn' := List.nodup_append.1 hn
      obtain ⟨σ3, F3, k1, k2, k3, k4, k5, k6⟩ := ih y (s + 1) m (σ.set s av) σ' rv fr hrs hr hR hn'.2.1
      have hss : σ3 s = (av, (σ s).2 + 1) := by rw [k2 s (.inl (Nat.lt_succ_self _)), St.set_same]
      have e1 : ∀ i, s + (i + 1) = s + 1 + i := fun i => by omega
      refine ⟨σ3, fun r => if r = s then f else F3 r, k1, ?_, ?_, by simp [k4], ?_, ?_⟩
      · intro r hr
        rw [k2 r (by omega), St.set_other _ _ _ _ (by omega)]
      · intro i hi
        cases i with
        | zero => rw [Nat.add_zero, hss]; exact Nat.lt_succ_self _
        | succ i =>
          have := k3 i (by omega)
          rw [St.set_other _ _ _ _ (by omega)] at this
          rw [e1]; exact this
      · intro i hi
        cases i with
        | zero =>
          simp only [Nat.add_zero, if_pos]
          rw [hss]
          exact ⟨hn'.1, by simpa using hb, fun b hb => by simp [hb]⟩
        | succ i =>
          have hne : ¬ s + 1 + i = s := by omega
          obtain ⟨q1, q2, q3⟩ := k5 i (by omega)
          rw [e1]
          simp only [if_neg hne]
          exact ⟨q1, by simpa using q2, fun b hb => by simp [q3 b hb]⟩
      · intro i j hi hj hij b hb
        cases i with
        | zero =>
          cases j with
          | zero => exact absurd rfl hij
          | succ j =>
            have hne : ¬ s + 1 + j = s := by omega
            rw [e1]
            simp only [Nat.add_zero, if_pos] at hb
            simp only [if_neg hne]
            exact fun hb' => hn'.2.2 b hb b ((k5 j (by omega)).2.2 b hb') rfl
        | succ i =>
          have hne : ¬ s + 1 + i = s := by omega
          rw [e1] at hb
          simp only [if_neg hne] at hb
          cases j with
          | zero =>
            simp only [Nat.add_zero, if_pos]
            exact fun hb' => hn'.2.2 b hb' b ((k5 i (by omega)).2.2 b hb) rfl
          | succ j =>
            have hne : ¬ s + 1 + j = s := by omega
            rw [e1]
            simp only [if_neg hne]
            exact k6 i j (by omega) (by omega) (by omega) b hb
    intro x s m σ σ' rv fr hrs hr hR hn
    have hrs' : RsOK rs := fun r hr => hrs r (by simp [hr])
    have hr0 := hrs r (by simp)
    cases r with
    | v t g =>
      obtain ⟨cs, f, vs', fp', rfl, rfl, h1, h2⟩ := hR
      exact key _ x.2 _ vs' f fp' s m σ σ' hrs' hr ⟨fun σ vl F G => mkAV_ok (TR_mono KI_I _ _ _ _ _ h1) hr0.2⟩ h2 hn
    | pb t g =>
      obtain ⟨b, cs, f, vs', fp', rfl, rfl, h0, h1, h2⟩ := hR
      exact key _ x.2 _ vs' (b :: f) fp' s m σ σ' hrs' hr ⟨fun σ vl F G => ⟨b, cs, f, rfl, h0, TR_mono KI_I _ _ _ _ _ h1, rfl⟩⟩ h2 (by simpa using hn)

theorem resK_run {c : Cx} {σ σ' : St} {a : Act} {w : World} {fr : List Nat} {F : Nat → List Nat} {G : Nat → Value} (h : Sim c σ a w fr F G) {rs : List RK} {x : RL rs} {d : Option Nat} {rv : List Value} (hrs : RsOK rs) (hR : ResL w c.K rs x rv fr) (hr : (resK c.E rs x d .done).run σ = some σ') :
    ∃ F' G', Sim c σ' (a.put d (packV rv)) w [] F' G' := by
  match rs, x, hrs, hR, hr with
  | [], x, hrs, hR, hr =>
    obtain ⟨rfl, rfl⟩ := hR
    obtain ⟨F', h'⟩ := fin_set (v := packV []) h hr (Frm.refl _ _) (f := []) (by simp) (by simp) trivial
    exact ⟨F', G, h'⟩
  | [.v t g], x, hrs, hR, hr =>
    obtain ⟨cs, f, vs', fp', rfl, rfl, h1, rfl, rfl⟩ := hR
    have h0 := hrs (.v t g) (by simp)
    obtain ⟨F', h'⟩ := fin_set (v := mkV t cs) h hr (Frm.refl _ _) (f := f) (by simpa using h.xnodup) (fun b hb => ⟨(h.xrng b (by simp [hb])).1, .inl (by simp [hb])⟩) (mkAV_ok (TR_mono KI_I _ _ _ _ _ h1) h0.2)
    exact ⟨F', G, h'⟩
  | [.pb t g], x, hrs, hR, hr =>
    obtain ⟨b, cs, f, vs', fp', rfl, rfl, h0, h1, rfl, rfl⟩ := hR
    obtain ⟨F', h'⟩ := fin_set (v := .pointer (some ⟨b, 0, none⟩)) h hr (Frm.refl _ _) (f := b :: f) (by simpa using h.xnodup) (fun q hq => ⟨(h.xrng q (by simpa using hq)).1, .inl (by simpa using hq)⟩) ⟨b, cs, f, rfl, h0, TR_mono KI_I _ _ _ _ _ h1, rfl⟩
    exact ⟨F', G, h'⟩
  | r1 :: r2 :: rs, x, hrs, hR, hr =>
    have hr : (match d with
      | some d => Mp.set (c.E.nt + 8 * d + 2) .dead (.set (c.E.nt + 8 * d + 3) .dead (.set (c.E.nt + 8 * d + 4) .dead (.set (c.E.nt + 8 * d + 5) .dead (resTup (r1 :: r2 :: rs) x (c.E.nt + 8 * d) (.get (c.E.nt + 8 * d + 3) fun _ n => chk (Nat.blt (r1 :: r2 :: rs).length 4) (setD c.E (some d) (.tup (c.E.nt + 8 * d) (r1 :: r2 :: rs).length n) .done))))))
      | none => .fail).run σ = some σ' := by cases r1 <;> exact hr
    cases d with
    | none => simp [Mp.run] at hr
    | some d =>
      simp only [Mp.run] at hr
      obtain ⟨B, hB⟩ : ∃ B, c.E.nt + 8 * d = B := ⟨_, rfl⟩
      rw [hB] at hr
      obtain ⟨σ3, F3, k1, k2, k3, k4, k5, k6⟩ := resTup_run _ x B _ _ σ' rv fr hrs hr hR h.xnodup
      simp only [Mp.run] at k1
      obtain ⟨hlt, k1⟩ := chk_run k1
      simp only [Nat.blt_eq] at hlt
      have hlen : (r1 :: r2 :: rs).length = rs.length + 2 := rfl
      rw [hlen] at hlt k1 k2 k3 k4 k5 k6
      have hout : ∀ r, r < B ∨ B + 6 ≤ r → σ3 r = σ r := by
        intro r hr
        rw [k2 r (by omega), St.set_other _ _ _ _ (by omega), St.set_other _ _ _ _ (by omega), St.set_other _ _ _ _ (by omega), St.set_other _ _ _ _ (by omega)]
      have hdead : ∀ r, B + (rs.length + 2) ≤ r → r < B + 6 → (σ3 r).1 = .dead ∧ (σ r).2 < (σ3 r).2 := by
        intro r h1 h2
        rw [k2 r (.inr h1)]
        have hc : r = B + 2 ∨ r = B + 3 ∨ r = B + 4 ∨ r = B + 5 := by omega
        rcases hc with rfl | rfl | rfl | rfl
        · rw [St.set_other _ _ _ _ (by omega), St.set_other _ _ _ _ (by omega), St.set_other _ _ _ _ (by omega), St.set_same]; exact ⟨rfl, Nat.lt_succ_self _⟩
        · rw [St.set_other _ _ _ _ (by omega), St.set_other _ _ _ _ (by omega), St.set_same, St.set_other _ _ _ _ (by omega)]; exact ⟨rfl, Nat.lt_succ_self _⟩
        · rw [St.set_other _ _ _ _ (by omega), St.set_same, St.set_other _ _ _ _ (by omega), St.set_other _ _ _ _ (by omega)]; exact ⟨rfl, Nat.lt_succ_self _⟩
        · rw [St.set_same, St.set_other _ _ _ _ (by omega), St.set_other _ _ _ _ (by omega), St.set_other _ _ _ _ (by omega)]; exact ⟨rfl, Nat.lt_succ_self _⟩
      have hle : ∀ r, (σ r).2 ≤ (((((σ.set (B + 2) .dead).set (B + 3) .dead).set (B + 4) .dead).set (B + 5) .dead) r).2 := by
        have one : ∀ (τ : St) (s r : Nat), (τ r).2 ≤ ((τ.set s .dead) r).2 := by
          intro τ s r
          by_cases e : r = s
          · subst e; rw [St.set_same]; exact Nat.le_succ _
          · rw [St.set_other _ _ _ _ e]; exact Nat.le_refl _
        intro r
        exact Nat.le_trans (one _ _ _) (Nat.le_trans (one _ _ _) (Nat.le_trans (one _ _ _) (one _ _ _)))
      have hgrow : ∀ r, B ≤ r → r < B + 6 → (σ r).2 < (σ3 r).2 := by
        intro r h1 h2
        by_cases h3 : B + (rs.length + 2) ≤ r
        · exact (hdead r h3 h2).2
        · have := k3 (r - B) (by omega)
          rw [show B + (r - B) = r by omega] at this
          exact Nat.lt_of_le_of_lt (hle r) this
      have hsim : Sim c σ3 a w [] (fun r => if B ≤ r ∧ r < B + (rs.length + 2) then F3 r else if B ≤ r ∧ r < B + 6 then [] else F r) (fun r => if B ≤ r ∧ r < B + (rs.length + 2) then rv.getD (r - B) undef else G r) := by
        have hnt : ∀ r, B ≤ r → ¬ r < c.E.nt := by intro r hr; omega
        refine h.multi (fun r => B ≤ r ∧ r < B + 6) (fun r hr => hout r (by omega)) (fun r hr => hgrow r hr.1 hr.2) ?_ (fun r hr => ?_) (fun _ _ _ _ => rfl) ?_ (Nat.le_refl _) rfl rfl rfl h.defers h.size (fun _ _ => rfl) ?_ ?_ ?_ List.nodup_nil (by simp) (by simp) ?_
        · intro r hr
          simp only [val]
          split
          · rfl
          · rw [if_neg (by omega)]
        · rw [if_neg (by omega), if_neg hr]
        · intro s i h1 h2 h3
          rw [if_neg (by omega)]
        · intro s hs
          by_cases h1 : B ≤ s ∧ s < B + (rs.length + 2)
          · simp only [if_pos h1]
            have := (k5 (s - B) (by omega)).1
            rwa [show B + (s - B) = s by omega] at this
          · simp only [if_neg h1, if_pos hs]; exact List.nodup_nil
        · intro s hs b hb
          by_cases h1 : B ≤ s ∧ s < B + (rs.length + 2)
          · simp only [if_pos h1] at hb
            have := (k5 (s - B) (by omega)).2.2 b
            rw [show B + (s - B) = s by omega] at this
            exact ⟨(h.xrng b (this hb)).1, .inl (this hb)⟩
          · simp only [if_neg h1, if_pos hs] at hb; simp at hb
        · intro s s' hs hs' hne b hb
          by_cases h1 : B ≤ s ∧ s < B + (rs.length + 2)
          · simp only [if_pos h1] at hb
            by_cases h2 : B ≤ s' ∧ s' < B + (rs.length + 2)
            · simp only [if_pos h2]
              have := k6 (s - B) (s' - B) (by omega) (by omega) (by omega) b
              rw [show B + (s - B) = s by omega, show B + (s' - B) = s' by omega] at this
              exact this hb
            · simp only [if_neg h2, if_pos hs']; simp
          · simp only [if_neg h1, if_pos hs] at hb; simp at hb
        · intro s hs
          by_cases h1 : B ≤ s ∧ s < B + (rs.length + 2)
          · have := (k5 (s - B) (by omega)).2.1
            rw [show B + (s - B) = s by omega] at this
            simp only [if_pos h1]
            have hv := this.sv
            have e : ∀ G', val c a G' s = G' s := fun G' => by simp only [val]; rw [if_neg (hnt s hs.1)]
            rw [e, if_pos h1]
            exact hv _ _ _ _
          · rw [(hdead s (by omega) hs.2).1]; trivial
      obtain ⟨F', h'⟩ := fin_set (d := some d) (v := packV rv) (f := []) hsim k1 (Frm.refl _ _) (by simp) (by simp) (by
        refine ⟨Nat.le_refl _, hlt, by omega, fun _ => ⟨rv.toArray, ?_, ?_⟩⟩
        · match rv, k4 with
          | v1 :: v2 :: rv, _ => rfl
        · intro i hi
          have h5 : B ≤ B + i ∧ B + i < B + (rs.length + 2) := by omega
          simp only [if_pos h5, Nat.add_sub_cancel_left]
          have : i < rv.length := by omega
          simp [this])
      exact ⟨F', _, h'⟩

theorem unval_ok {P : Program} {w : World} {J K : Nat → Prop} : ∀ (as : List Ty) (x : Args (as.map fun t => PK.val t false)) (vs : List Value) (fp : List Nat), ArgsOK P w J K (as.map fun t => PK.val t false) x vs fp → Vals w J as (callK.unval as x) vs ∧ fp = []
  | [], x, vs, fp, h => ⟨h.1, h.2⟩
  | t :: as, x, vs, fp, h => by
    obtain ⟨d, cs, vs', rfl, h1, h2⟩ := h
    obtain ⟨h3, h4⟩ := unval_ok as x.2 vs' fp h2
    exact ⟨⟨d, cs, vs', rfl, h1, h3⟩, h4⟩
theorem Vals_mono {w : World} {J J' : Nat → Prop} (hJ : ∀ b, J b → J' b) : ∀ (as : List Ty) (x : HL as) (vs : List Value), Vals w J as x vs → Vals w J' as x vs
  | [], x, vs, h => h
  | t :: as, x, vs, h => by
    obtain ⟨d, cs, vs', rfl, h1, h2⟩ := h
    exact ⟨d, cs, vs', rfl, RI_same hJ (fun _ _ => rfl) _ _ _ _ h1, Vals_mono hJ as x.2 vs' h2⟩

section
variable {c : Cx} (he : EnvOK c) {σ σ' : St} {a : Act} {w : World} {F : Nat → List Nat} {G : Nat → Value} (h : Sim c σ a w [] F G) {Q : Exit → Act → World → Prop} {o : Oper}
include he h
theorem op_callF {cl : Call} (ho : o.op = .call cl) {f : Nat} (hc : cl.callee = .value (.func f)) (hr : (match c.E.sg f with
    | some ⟨ps, rs, O, F, out⟩ => argsK c.E ps cl.args.toList [] [] fun xs put => .bnd (F xs) fun oo => put (out oo).1 (resK c.E rs (out oo).2 o.dst .done)
    | none => .fail).run σ = some σ') : OpOK c σ' Q a w o := by
  cases hsg : c.E.sg f with
  | none => simp [hsg, Mp.run] at hr
  | some sg =>
    obtain ⟨ps, rs, Ot, Fn, outF⟩ := sg
    simp only [hsg] at hr
    obtain ⟨hrs, hps⟩ := he.noIp _ _ hsg
    obtain ⟨hcall, hs⟩ := he.sg _ _ hsg
    obtain ⟨x, put, vs', sl, fp, hr, hA⟩ := argsK_run he h ps _ _ _ _ hps hr
    obtain ⟨oo, hoo, hr⟩ := bnd_run hr
    obtain ⟨σ2, h1, h2, h3, h4⟩ := hA.back (outF oo).1 _ σ σ' (fun _ _ => rfl) hr
    have hx := exec_call (a := a) ho hc (n := f) (caps := #[]) (P := c.P) rfl hcall w
    unfold OpOK Oper.wp
    rw [hx, Oper.upon_enter]
    have e : cl.args.map a.eval ++ #[] = (cl.args.toList.map a.eval).toArray := by apply Array.toList_inj.1; simp
    rw [e]
    have hJ : ∀ b, (c.Ip b ∨ ∃ r ∈ vs', b ∈ F r) → b < w.heap.size ∧ b ∉ fp := by
      rintro b (hb | ⟨r, hr, hb⟩)
      · refine ⟨Nat.lt_of_lt_of_le hb.1 h.grow, fun hf => ?_⟩
        obtain ⟨s, hs, hb2⟩ := hA.fps b hf
        exact Cx.not_ip (h.rng s b hb2).2 hb
      · refine ⟨(h.rng r b hb).1, fun hf => ?_⟩
        obtain ⟨s, hs, hb2⟩ := hA.fps b hf
        exact h.disj s r (by rintro rfl; exact (hA.slo s hs).2 hr) b hb2 hb
    refine Calls.mono (hs w _ c.K x _ fp oo (fun b hb => .inl (h.kip b hb)) hJ hA.fpn (fun b hb => by
      obtain ⟨s, hs, hb2⟩ := hA.fps b hb
      exact (h.rng s b hb2).1) hA.args hoo) ?_
    rintro e w' ⟨v, rfl, hout⟩
    obtain ⟨⟨rv, fr, fio, rfl, m1, m2, m3, m4⟩, m5⟩ := hout
    obtain ⟨F', hsim⟩ := call_back (sg := ⟨ps, rs, Ot, Fn, outF⟩) (o := outF oo) (rv := rv) h hA m2 m3 m4 m5 h2 h3 h4
    exact resK_run hsim hrs m1 h1

theorem op_callV {cl : Call} (ho : o.op = .call cl) {x : Operand} (hc : cl.callee = .value x) (hr : (rd c.E none x fun v _ _ => match v with
    | .clo as r F srcs => argsK.alive srcs (argsK c.E (as.map fun t => PK.val t false) cl.args.toList [] [] fun xs _ => .bnd (F (callK.unval as xs)) fun y => setD c.E o.dst (mkAV r y .own) .done)
    | _ => .fail).run σ = some σ') : OpOK c σ' Q a w o := by
  obtain ⟨av, s, n, hop, hr⟩ := rd_run he h hr
  have hsv := hop.sv
  cases av with
  | clo as r Fn q =>
    obtain ⟨hal, hr⟩ := alive_run _ _ _ _ hr
    obtain ⟨hp, m, caps, hv, hcall, hC⟩ := hsv.2 hal
    have hps : PsOK (as.map fun t => PK.val t false) := by
      intro p hp
      obtain ⟨t, _, rfl⟩ := List.mem_map.1 hp
      trivial
    obtain ⟨xs, put, vs', sl, fp, hr, hA⟩ := argsK_run he h _ _ _ _ _ hps hr
    obtain ⟨y, hy, hr⟩ := bnd_run hr
    obtain ⟨hvals, _⟩ := unval_ok as xs _ _ hA.args
    have hx := exec_call ho hc (P := c.P) hv hcall w
    unfold OpOK Oper.wp
    rw [hx, Oper.upon_enter]
    have e : cl.args.map a.eval ++ caps = (cl.args.toList.map a.eval).toArray ++ caps := by apply Array.toList_inj.1; simp
    rw [e]
    refine Calls.mono (hC w (fun _ _ => rfl) (Nat.le_refl _) _ _ y (Vals_mono (fun b hb => ?_) _ _ _ hvals) hy) ?_
    · rcases hb with hb | ⟨r, hr, hb⟩
      · exact Nat.lt_of_lt_of_le hb.1 h.grow
      · exact (h.rng r b hb).1
    · rintro e w' ⟨cs, rfl, hpv, hfrm⟩
      have hT := hpv.TR w' c.I
      obtain ⟨F', h'⟩ := fin_set (v := mkV r cs) (f := []) h hr hfrm (by simp) (by simp) (mkAV_ok hT (by cases r <;> simp [aliveT]))
      exact ⟨F', G, h'⟩
  | _ => simp [Mp.run] at hr
end
end Net

/- One operation, whichever: sound. -/
namespace Net
open Go
set_option linter.unusedVariables false
set_option linter.unusedSectionVars false

section
variable {c : Cx} (he : EnvOK c) (ht : TyOK c.P c.E.ty) {σ σ' : St} {a : Act} {w : World} {F : Nat → List Nat} {G : Nat → Value} (h : Sim c σ a w [] F G) {Q : Exit → Act → World → Prop} {o : Oper}
include he ht h

theorem callK_ok {cl : Call} (ho : o.op = .call cl) (hr : (callK c.E cl (c.E.ty o.type) o.dst .done).run σ = some σ') : OpOK c σ' Q a w o := by
  unfold callK at hr
  cases hc : cl.callee with
  | builtin b =>
    simp only [hc] at hr
    cases b with
    | len =>
      simp only at hr
      split at hr
      · rename_i x hx; exact op_len he ht h ho hc hx hr
      · simp [Mp.run] at hr
    | append =>
      simp only at hr
      split at hr
      · rename_i x y hx; exact op_append he ht h ho hc hx hr
      · simp [Mp.run] at hr
    | min =>
      simp only at hr
      split at hr
      · rename_i x y hx; exact op_min he h ho hc hx hr
      · simp [Mp.run] at hr
    | max =>
      simp only at hr
      split at hr
      · rename_i x y hx; exact op_max he h ho hc hx hr
      · simp [Mp.run] at hr
    | _ => simp [Mp.run] at hr
  | invoke r m => simp [hc, Mp.run] at hr
  | value x =>
    simp only [hc] at hr
    cases x with
    | func f => exact op_callF he h ho hc hr
    | tmp t => exact op_callV he h ho hc hr
    | const v => exact op_callV he h ho hc hr
    | global g => exact op_callV he h ho hc hr

theorem opK_ok (hr : (opK c.E o .done).run σ = some σ') : OpOK c σ' Q a w o := by
  unfold opK at hr
  cases hop : o.op with
  | move x => simp only [hop] at hr; exact op_move he h hop hr
  | assign x => simp only [hop] at hr; exact op_assign he h hop hr
  | pick x y z => simp only [hop] at hr; exact op_pick he h hop hr
  | alloc T => simp only [hop] at hr; exact op_alloc ht h hop hr
  | box T x => simp only [hop] at hr; exact op_box he h hop hr
  | build T ps => simp only [hop] at hr; exact op_build he ht h hop hr
  | buildSlice T n ps => simp only [hop] at hr; exact op_buildSlice he ht h hop hr
  | load T x => simp only [hop] at hr; exact loadK_ok he ht h hop hr
  | store T p x => simp only [hop] at hr; exact op_store he ht h hop hr
  | nilCheck x => simp only [hop] at hr; exact op_nil he h hop hr
  | binOp op T x y ot => simp only [hop] at hr; exact op_bin he ht h hop hr
  | unOp op T x => simp only [hop] at hr; exact op_un he h hop hr
  | convert S T x => simp only [hop] at hr; exact op_conv he ht h hop hr
  | makeSlice T l k => simp only [hop] at hr; exact op_make he ht h hop hr
  | slice T x lo hi mx => simp only [hop] at hr; exact op_slice he ht h hop hr
  | fieldAddr T x i => simp only [hop] at hr; exact fieldAddrK_ok he ht h hop hr
  | indexAddr T x i => simp only [hop] at hr; exact indexAddrK_ok he ht h hop hr
  | index T x i => simp only [hop] at hr; exact op_index he ht h hop hr
  | makeFunc fn first cs =>
    simp only [hop] at hr
    split at hr
    · rename_i f hf
      have hfirst : first = #[] := by apply Array.toList_inj.1; exact hf
      subst hfirst
      exact op_makeFunc he h hop hr
    · simp [Mp.run] at hr
  | extract x i => simp only [hop] at hr; exact op_extract he h hop hr
  | call cl => simp only [hop] at hr; exact callK_ok he ht h hop hr
  | _ => simp [hop, Mp.run] at hr
end
end Net

/- Guards; operations in their order. -/
namespace Net
open Go
set_option linter.unusedVariables false
set_option linter.unusedSectionVars false

/-- Versions grow; what bears the same version is as it was. -/
def VMono (σ σ' : St) : Prop := ∀ s, (σ s).2 ≤ (σ' s).2 ∧ ((σ' s).2 = (σ s).2 → σ' s = σ s)
theorem VMono.refl (σ : St) : VMono σ σ := fun _ => ⟨Nat.le_refl _, fun _ => rfl⟩
theorem VMono.trans {σ σ1 σ2 : St} (h : VMono σ σ1) (k : VMono σ1 σ2) : VMono σ σ2 := fun s => by
  obtain ⟨h1, h2⟩ := h s
  obtain ⟨k1, k2⟩ := k s
  exact ⟨Nat.le_trans h1 k1, fun e => (k2 (by omega)).trans (h2 (by omega))⟩
theorem VMono.set (σ : St) (s : Nat) (v : AV) : VMono σ (σ.set s v) := fun r => by
  by_cases e : r = s
  · subst e; rw [St.set_same]; exact ⟨Nat.le_succ _, fun e => absurd e (by simp)⟩
  · rw [St.set_other _ _ _ _ e]; exact ⟨Nat.le_refl _, fun _ => rfl⟩
theorem Mp.run_vmono : ∀ (m : Mp) (σ σ' : St), m.run σ = some σ' → VMono σ σ'
  | .done, σ, σ', h => by simp only [Mp.run, Option.some.injEq] at h; subst h; exact VMono.refl _
  | .fail, _, _, h => by simp [Mp.run] at h
  | .get s m, σ, σ', h => by simp only [Mp.run] at h; exact Mp.run_vmono _ _ _ h
  | .set s v m, σ, σ', h => by simp only [Mp.run] at h; exact (VMono.set σ s v).trans (Mp.run_vmono m _ _ h)
  | .cond b t e, σ, σ', h => by
    cases b with
    | true => simp only [Mp.run, cond_true] at h; exact Mp.run_vmono t _ _ h
    | false => simp only [Mp.run, cond_false] at h; exact Mp.run_vmono e _ _ h
  | .br s t e u, σ, σ', h => by
    rcases hs : σ s with ⟨av, n⟩
    cases av with
    | own ty x g =>
      cases ty with
      | bool =>
        cases g with
        | own =>
          simp only [Mp.run, hs] at h
          cases x with
          | true => simp only [cond_true] at h; exact Mp.run_vmono t _ _ h
          | false => simp only [cond_false] at h; exact Mp.run_vmono e _ _ h
        | _ => simp [Mp.run, hs] at h
      | _ => simp [Mp.run, hs] at h
    | und => simp only [Mp.run, hs] at h; exact Mp.run_vmono u _ _ h
    | _ => simp [Mp.run, hs] at h
  | .bnd o m, σ, σ', h => by
    cases o with
    | none => simp [Mp.run] at h
    | some x => simp only [Mp.run, Option.bind_some] at h; exact Mp.run_vmono _ _ _ h

/-- An operation where it stands in a region. -/
def OpAt (P : Program) (ops : Array Oper) (Q : Exit → Act → World → Prop) (o : Oper) (K : Act → World → Prop) (a : Act) (w : World) : Prop :=
  if Region.wanted o (yielded ops a.tmps) then o.wp P a w K Q ∨ (o.asks P a w ∧ LetsOut Q) else K (a.put o.dst undef) w

theorem OpAt.mono {P : Program} {ops : Array Oper} {Q : Exit → Act → World → Prop} {o : Oper} {K K' : Act → World → Prop} {a : Act} {w : World} (hK : ∀ a w, K a w → K' a w) (h : OpAt P ops Q o K a w) : OpAt P ops Q o K' a w := by
  unfold OpAt at *
  split
  · rename_i hw; rw [if_pos hw] at h; exact h.imp (Oper.wp_mono hK) id
  · rename_i hw; rw [if_neg hw] at h; exact hK _ _ h

theorem yielded_at {ops : Array Oper} {tmps : Array Value} {j t : Nat} (hj : (ops[j]?).bind (·.dst) = some t) (ht : t < tmps.size) : yielded ops tmps j = (match tmps.getD t undef with | .bool b => some b | _ => none) := by
  have e : tmps[t]? = some (tmps.getD t undef) := by simp [ht]
  unfold yielded
  rw [hj, Option.bind_some, e]
  cases tmps.getD t undef <;> rfl

section
variable {c : Cx} (he : EnvOK c) (ht : TyOK c.P c.E.ty) {σ σ' : St} {a : Act} {w : World} {F : Nat → List Nat} {G : Nat → Value} (h : Sim c σ a w [] F G) {Q : Exit → Act → World → Prop} {o : Oper} {ops : Array Oper}
include he ht h

theorem guard_ok (hr : (guardK c.E ops o).run σ = some σ') : OpAt c.P ops Q o (fun a' w' => ∃ F' G', Sim c σ' a' w' [] F' G') a w := by
  unfold guardK at hr
  unfold OpAt
  cases hg : o.guard with
  | none =>
    simp only [hg] at hr
    rw [if_pos (by simp [Region.wanted, hg])]
    exact .inl (opK_ok he ht h hr)
  | some p =>
    obtain ⟨j, want⟩ := p
    simp only [hg] at hr
    cases hj : (ops[j]?).bind (·.dst) with
    | none => simp [hj, Mp.run] at hr
    | some t =>
      simp only [hj] at hr
      obtain ⟨hlt, hr⟩ := chk_run hr
      have hlt : t < c.E.nt := by simpa [Nat.blt_eq] using hlt
      have hy := yielded_at (tmps := a.tmps) hj (by rw [h.size]; exact hlt)
      have hv : val c a G t = a.tmps.getD t undef := by simp only [val, if_pos hlt]
      have hsl := h.slot t
      rw [hv] at hsl
      have skip : (setD c.E o.dst .und .done).run σ = some σ' → ∃ F' G', Sim c σ' (a.put o.dst undef) w [] F' G' := fun hr => by
        obtain ⟨F', h'⟩ := fin_set (v := undef) h hr (Frm.refl _ _) (f := []) (by simp) (by simp) rfl
        exact ⟨F', G, h'⟩
      have known : ∀ b, yielded ops a.tmps j = some b → (if b = want then (opK c.E o .done).run σ = some σ' else (setD c.E o.dst .und .done).run σ = some σ') →
          if Region.wanted o (yielded ops a.tmps) then o.wp c.P a w (fun a' w' => ∃ F' G', Sim c σ' a' w' [] F' G') Q ∨ (o.asks c.P a w ∧ LetsOut Q) else ∃ F' G', Sim c σ' (a.put o.dst undef) w [] F' G' := by
        intro b hb hr
        by_cases hbw : b = want
        · rw [if_pos hbw] at hr
          rw [if_pos (by simp [Region.wanted, hg, hb, hbw])]
          exact .inl (opK_ok he ht h hr)
        · rw [if_neg hbw] at hr
          rw [if_neg (by simp [Region.wanted, hg, hb, hbw])]
          exact skip hr
      rcases hst : σ t with ⟨av, n⟩
      rw [hst] at hsl
      cases av with
      | own ty x g =>
        cases ty with
        | bool =>
          cases g with
          | own =>
            obtain ⟨cs, h1, h2⟩ := hsl
            have h3 : a.tmps.getD t undef = .bool x := by
              simp only [TR] at h2
              obtain ⟨d, hd⟩ := h2
              cases d with
              | zero => exact hd.elim
              | succ d => obtain ⟨rfl, _⟩ := hd; exact h1
            rw [h3] at hy
            refine known x hy ?_
            cases want <;> simp only [Mp.run, hst] at hr <;> cases x <;> simp only [cond_true, cond_false] at hr <;> simp only [if_true, reduceCtorEq, if_false] <;> exact hr
          | _ => cases want <;> simp [Mp.run, hst] at hr
        | _ => cases want <;> simp [Mp.run, hst] at hr
      | und =>
        have h3 : a.tmps.getD t undef = undef := hsl
        rw [h3] at hy
        have hy : yielded ops a.tmps j = none := hy
        rw [if_neg (by simp [Region.wanted, hg, hy])]
        refine skip ?_
        cases want <;> simp only [Mp.run, hst] at hr <;> exact hr
      | _ => cases want <;> simp [Mp.run, hst] at hr
end

section
variable {c : Cx} (he : EnvOK c) (ht : TyOK c.P c.E.ty) {Q : Exit → Act → World → Prop} {ops : Array Oper} {α : Type} {r : α} {kn : St → Option α}
  {σb : St} (hQ : ∀ σ' a' w' F' G', kn σ' = some r → VMono σb σ' → Sim c σ' a' w' [] F' G' → Q .normal a' w')
include he ht hQ

theorem evOps_ok : ∀ (l : List Oper) (σ : St) (a : Act) (w : World) (F : Nat → List Nat) (G : Nat → Value), Sim c σ a w [] F G → VMono σb σ → evOps c.E ops l σ kn = some r → wpList c.P ops Q l a w
  | [], σ, a, w, F, G, h, hb, hr => hQ σ a w F G hr hb h
  | o :: l, σ, a, w, F, G, h, hb, hr => by
    simp only [evOps] at hr
    rw [Mp.ev_run] at hr
    obtain ⟨σ', h1, h2⟩ := Option.bind_eq_some_iff.1 hr
    have := (guard_ok he ht h (Q := Q) h1).mono (K' := wpList c.P ops Q l) (fun a' w' ⟨F', G', h'⟩ => evOps_ok l σ' a' w' F' G' h' (hb.trans (Mp.run_vmono _ _ _ h1)) h2)
    unfold OpAt at this
    unfold wpList
    exact this
end

/- with the slots that are read and written -/
def Mp.runF : Mp → St → List Nat → List Nat → Option (St × List Nat × List Nat)
  | .done, σ, r, w => some (σ, r, w)
  | .fail, _, _, _ => none
  | .get s m, σ, r, w => (m (σ s).1 (σ s).2).runF σ (s :: r) w
  | .set s v m, σ, r, w => m.runF (σ.set s v) r (s :: w)
  | .cond b t e, σ, r, w => _root_.cond b (t.runF σ r w) (e.runF σ r w)
  | .br s t e u, σ, r, w => match σ s with
    | (.own .bool b .own, _) => _root_.cond b (t.runF σ (s :: r) w) (e.runF σ (s :: r) w)
    | (.und, _) => u.runF σ (s :: r) w
    | _ => none
  | .bnd o m, σ, r, w => o.bind fun x => (m x).runF σ r w

theorem Mp.evF_runF {α : Type} : ∀ (m : Mp) (σ : St) (r w : List Nat) (k : St → List Nat → List Nat → Option α), m.evF σ r w k = (m.runF σ r w).bind fun z => k z.1 z.2.1 z.2.2
  | .done, σ, r, w, k => rfl
  | .fail, _, _, _, _ => rfl
  | .get s m, σ, r, w, k => by simp only [Mp.evF, Mp.runF]; exact Mp.evF_runF _ _ _ _ _
  | .set s v m, σ, r, w, k => by simp only [Mp.evF, Mp.runF]; exact Mp.evF_runF _ _ _ _ _
  | .cond b t e, σ, r, w, k => by cases b <;> simp only [Mp.evF, Mp.runF, cond_true, cond_false] <;> exact Mp.evF_runF _ _ _ _ _
  | .br s t e u, σ, r, w, k => by
    rcases h : σ s with ⟨av, n⟩
    cases av with
    | own ty x g =>
      cases ty with
      | bool =>
        cases g with
        | own =>
          have hr : ∀ b, x = b → σ.ref s n b = σ := fun b hb => St.ref_same (by rw [h, hb])
          simp only [Mp.evF, Mp.runF, h]
          cases x with
          | true => simp only [cond_true]; rw [hr true rfl]; exact Mp.evF_runF _ _ _ _ _
          | false => simp only [cond_false]; rw [hr false rfl]; exact Mp.evF_runF _ _ _ _ _
        | _ => simp [Mp.evF, Mp.runF, h]
      | _ => simp [Mp.evF, Mp.runF, h]
    | und => simp only [Mp.evF, Mp.runF, h]; exact Mp.evF_runF _ _ _ _ _
    | _ => simp [Mp.evF, Mp.runF, h]
  | .bnd o m, σ, r, w, k => by cases o <;> simp only [Mp.evF, Mp.runF, Option.bind_some, Option.bind_none]; exact Mp.evF_runF _ _ _ _ _

theorem Mp.runF_run : ∀ (m : Mp) (σ σ' : St) (r w r' w' : List Nat), m.runF σ r w = some (σ', r', w') → m.run σ = some σ' ∧ (∀ s ∈ r, s ∈ r') ∧ (∀ s ∈ w, s ∈ w')
  | .done, σ, σ', r, w, r', w', h => by
    simp only [Mp.runF, Option.some.injEq, Prod.mk.injEq] at h
    obtain ⟨rfl, rfl, rfl⟩ := h
    exact ⟨rfl, fun _ h => h, fun _ h => h⟩
  | .fail, _, _, _, _, _, _, h => by simp [Mp.runF] at h
  | .get s m, σ, σ', r, w, r', w', h => by
    simp only [Mp.runF] at h
    obtain ⟨h1, h2, h3⟩ := Mp.runF_run _ _ _ _ _ _ _ h
    exact ⟨h1, fun s hs => h2 s (by simp [hs]), h3⟩
  | .set s v m, σ, σ', r, w, r', w', h => by
    simp only [Mp.runF] at h
    obtain ⟨h1, h2, h3⟩ := Mp.runF_run _ _ _ _ _ _ _ h
    exact ⟨h1, h2, fun s hs => h3 s (by simp [hs])⟩
  | .cond b t e, σ, σ', r, w, r', w', h => by
    cases b with
    | true =>
      simp only [Mp.runF, cond_true] at h
      exact Mp.runF_run t _ _ _ _ _ _ h
    | false =>
      simp only [Mp.runF, cond_false] at h
      exact Mp.runF_run e _ _ _ _ _ _ h
  | .br s t e u, σ, σ', r, w, r', w', h => by
    rcases hs : σ s with ⟨av, n⟩
    cases av with
    | own ty x g =>
      cases ty with
      | bool =>
        cases g with
        | own =>
          simp only [Mp.runF, hs] at h
          cases x <;> simp only [cond_true, cond_false] at h <;> obtain ⟨h1, h2, h3⟩ := Mp.runF_run _ _ _ _ _ _ _ h <;> exact ⟨by simp only [Mp.run, hs, cond_true, cond_false]; exact h1, fun s hs => h2 s (by simp [hs]), h3⟩
        | _ => simp [Mp.runF, hs] at h
      | _ => simp [Mp.runF, hs] at h
    | und =>
      simp only [Mp.runF, hs] at h
      obtain ⟨h1, h2, h3⟩ := Mp.runF_run _ _ _ _ _ _ _ h
      exact ⟨by simp only [Mp.run, hs]; exact h1, fun s hs => h2 s (by simp [hs]), h3⟩
    | _ => simp [Mp.runF, hs] at h
  | .bnd o m, σ, σ', r, w, r', w', h => by
    cases o with
    | none => simp [Mp.runF] at h
    | some x =>
      simp only [Mp.runF, Option.bind_some] at h
      obtain ⟨h1, h2, h3⟩ := Mp.runF_run _ _ _ _ _ _ _ h
      exact ⟨h1, h2, h3⟩

/-- What is run hangs on what it reads and writes, and changes what it writes. -/
theorem Mp.runF_frame : ∀ (m : Mp) (σ σ' : St) (r w r' w' : List Nat), m.runF σ r w = some (σ', r', w') → ∀ τ : St, (∀ s, s ∈ r' ∨ s ∈ w' → τ s = σ s) →
    ∃ τ', m.runF τ r w = some (τ', r', w') ∧ (∀ s, τ s = σ s → τ' s = σ' s) ∧ (∀ s, s ∉ w' → τ' s = τ s)
  | .done, σ, σ', r, w, r', w', h, τ, hτ => by
    simp only [Mp.runF, Option.some.injEq, Prod.mk.injEq] at h
    obtain ⟨rfl, rfl, rfl⟩ := h
    exact ⟨τ, rfl, fun _ h => h, fun _ _ => rfl⟩
  | .fail, _, _, _, _, _, _, h, _, _ => by simp [Mp.runF] at h
  | .get s m, σ, σ', r, w, r', w', h, τ, hτ => by
    simp only [Mp.runF] at h
    have hs : τ s = σ s := hτ s (.inl ((Mp.runF_run _ _ _ _ _ _ _ h).2.1 s (by simp)))
    obtain ⟨τ', h1, h2, h3⟩ := Mp.runF_frame _ _ _ _ _ _ _ h τ hτ
    exact ⟨τ', by simp only [Mp.runF, hs]; exact h1, h2, h3⟩
  | .set s v m, σ, σ', r, w, r', w', h, τ, hτ => by
    simp only [Mp.runF] at h
    have hsw : s ∈ w' := (Mp.runF_run _ _ _ _ _ _ _ h).2.2 s (by simp)
    have hs : τ s = σ s := hτ s (.inr hsw)
    have key : ∀ q, τ q = σ q → (τ.set s v) q = (σ.set s v) q := by
      intro q hq
      by_cases e : q = s
      · subst e; rw [St.set_same, St.set_same, hs]
      · rw [St.set_other _ _ _ _ e, St.set_other _ _ _ _ e, hq]
    obtain ⟨τ', h1, h2, h3⟩ := Mp.runF_frame _ _ _ _ _ _ _ h (τ.set s v) (fun q hq => key q (hτ q hq))
    refine ⟨τ', by simp only [Mp.runF]; exact h1, fun q hq => h2 q (key q hq), fun q hq => ?_⟩
    rw [h3 q hq, St.set_other _ _ _ _ (by rintro rfl; exact hq hsw)]
  | .cond b t e, σ, σ', r, w, r', w', h, τ, hτ => by
    cases b with
    | true =>
      simp only [Mp.runF, cond_true] at h ⊢
      exact Mp.runF_frame t _ _ _ _ _ _ h τ hτ
    | false =>
      simp only [Mp.runF, cond_false] at h ⊢
      exact Mp.runF_frame e _ _ _ _ _ _ h τ hτ
  | .br s t e u, σ, σ', r, w, r', w', h, τ, hτ => by
    rcases hs : σ s with ⟨av, n⟩
    cases av with
    | own ty x g =>
      cases ty with
      | bool =>
        cases g with
        | own =>
          simp only [Mp.runF, hs] at h
          cases x <;> simp only [cond_true, cond_false] at h
          · have hq : τ s = σ s := hτ s (.inl ((Mp.runF_run _ _ _ _ _ _ _ h).2.1 s (by simp)))
            obtain ⟨τ', h1, h2, h3⟩ := Mp.runF_frame _ _ _ _ _ _ _ h τ hτ
            exact ⟨τ', by simp only [Mp.runF, hq, hs, cond_false]; exact h1, h2, h3⟩
          · have hq : τ s = σ s := hτ s (.inl ((Mp.runF_run _ _ _ _ _ _ _ h).2.1 s (by simp)))
            obtain ⟨τ', h1, h2, h3⟩ := Mp.runF_frame _ _ _ _ _ _ _ h τ hτ
            exact ⟨τ', by simp only [Mp.runF, hq, hs, cond_true]; exact h1, h2, h3⟩
        | _ => simp [Mp.runF, hs] at h
      | _ => simp [Mp.runF, hs] at h
    | und =>
      simp only [Mp.runF, hs] at h
      have hq : τ s = σ s := hτ s (.inl ((Mp.runF_run _ _ _ _ _ _ _ h).2.1 s (by simp)))
      obtain ⟨τ', h1, h2, h3⟩ := Mp.runF_frame _ _ _ _ _ _ _ h τ hτ
      exact ⟨τ', by simp only [Mp.runF, hq, hs]; exact h1, h2, h3⟩
    | _ => simp [Mp.runF, hs] at h
  | .bnd o m, σ, σ', r, w, r', w', h, τ, hτ => by
    cases o with
    | none => simp [Mp.runF] at h
    | some x =>
      simp only [Mp.runF, Option.bind_some] at h ⊢
      exact Mp.runF_frame _ _ _ _ _ _ _ h τ hτ
end Net

/- Operations in any order that their edges allow. -/
namespace Net
open Go
set_option linter.unusedVariables false
set_option linter.unusedSectionVars false

theorem memN_iff {n : Nat} : ∀ {l : List Nat}, memN n l = true ↔ n ∈ l
  | [] => by simp [memN]
  | m :: l => by
    simp only [memN]
    cases hb : Nat.beq n m with
    | true => have := Nat.eq_of_beq_eq_true hb; simp [this]
    | false =>
      have : n ≠ m := by rintro rfl; simp at hb
      simp [memN_iff, this]
theorem disj_not : ∀ {l m : List Nat}, disj l m = true → ∀ n ∈ l, n ∉ m
  | [], m, _, n, hn => by simp at hn
  | k :: l, m, h, n, hn => by
    simp only [disj] at h
    cases hk : memN k m with
    | true => simp [hk] at h
    | false =>
      simp only [hk] at h
      rcases List.mem_cons.1 hn with rfl | hn
      · intro hm; rw [memN_iff.2 hm] at hk; cases hk
      · exact disj_not h n hn

theorem behind_fold (bs : List (List Nat)) (j : Nat) : ∀ (l : List Edge) (acc : List Nat), j ∈ l.foldl (behindStep bs) acc ↔ j ∈ acc ∨ ∃ e ∈ l, Region.binds .any e = true ∧ (j = e.on ∨ j ∈ (bs[e.on]?).getD [])
  | [], acc => by simp
  | e :: l, acc => by
    simp only [List.foldl_cons]
    rw [behind_fold bs j l]
    unfold behindStep
    cases hb : Region.binds .any e with
    | true =>
      simp only [List.mem_cons, List.mem_append]
      constructor
      · rintro ((h | h | h) | ⟨e', h1, h2⟩)
        · exact .inr ⟨e, .inl rfl, hb, .inl h⟩
        · exact .inr ⟨e, .inl rfl, hb, .inr h⟩
        · exact .inl h
        · exact .inr ⟨e', .inr h1, h2⟩
      · rintro (h | ⟨e', rfl | h1, h2, h3⟩)
        · exact .inl (.inr (.inr h))
        · exact .inl (h3.imp id .inl)
        · exact .inr ⟨e', h1, h2, h3⟩
    | false =>
      constructor
      · rintro (h | ⟨e', h1, h2⟩)
        · exact .inl h
        · exact .inr ⟨e', by simp [h1], h2⟩
      · rintro (h | ⟨e', h1, h2, h3⟩)
        · exact .inl h
        · rcases List.mem_cons.1 h1 with rfl | h1
          · rw [hb] at h2; cases h2
          · exact .inr ⟨e', h1, h2, h3⟩
theorem behind_mem {bs : List (List Nat)} {o : Oper} {j : Nat} : j ∈ behind bs o ↔ ∃ e ∈ o.after.toList, Region.binds .any e = true ∧ (j = e.on ∨ j ∈ (bs[e.on]?).getD []) := by
  unfold behind
  rw [behind_fold]
  simp

theorem okAgainst_at {f : FP} {bh : List Nat} : ∀ (fs : List FP) (n : Nat), okAgainst f bh n fs = true → ∀ k g, fs[k]? = some g → (n + k) ∈ bh ∨ indep g f = true
  | [], n, _, k, g, hk => by simp at hk
  | g0 :: fs, n, h, k, g, hk => by
    simp only [okAgainst, Bool.and_eq_true] at h
    cases k with
    | zero =>
      simp only [List.getElem?_cons_zero, Option.some.injEq] at hk
      subst hk
      cases hm : memN n bh with
      | true => exact .inl (memN_iff.1 hm)
      | false => simp only [hm] at h; exact .inr h.1
    | succ k =>
      have := okAgainst_at fs (n + 1) h.2 k g (by simpa using hk)
      rwa [Nat.add_assoc, Nat.add_comm 1 k] at this

structure Trace (E : Tb) (ops : Array Oper) (l : List Oper) (bs0 : List (List Nat)) (fs0 : List FP) (S : Nat → St) (fp : Nat → FP) (bh : Nat → List Nat) : Prop where
  step : ∀ i o, l[i]? = some o → (guardK E ops o).runF (S i) [] [] = some (S (i + 1), (fp i).r, (fp i).w)
  beh : ∀ i o, l[i]? = some o → bh i = behind (bs0 ++ (List.range i).map bh) o
  ok : ∀ i o, l[i]? = some o → okAgainst (fp i) (bh i) 0 (fs0 ++ (List.range i).map fp) = true
  edges : ∀ i o, l[i]? = some o → okEdges (fs0.length + i) o = true

theorem evDraw_trace {α : Type} {E : Tb} {ops : Array Oper} {k : St → Option α} {x : α} : ∀ (l : List Oper) (bs : List (List Nat)) (fs : List FP) (σ : St), evDraw E ops l bs fs σ k = some x →
    ∃ S fp bh, S 0 = σ ∧ Trace E ops l bs fs S fp bh ∧ k (S l.length) = some x
  | [], bs, fs, σ, h => ⟨fun _ => σ, fun _ => ⟨[], []⟩, fun _ => [], rfl, ⟨fun i o hi => by simp at hi, fun i o hi => by simp at hi, fun i o hi => by simp at hi, fun i o hi => by simp at hi⟩, h⟩
  | o :: l, bs, fs, σ, h => by
    simp only [evDraw] at h
    rw [Mp.evF_runF] at h
    obtain ⟨⟨σ', rd, wr⟩, h1, h2⟩ := Option.bind_eq_some_iff.1 h
    simp only at h2
    cases hc : okEdges fs.length o && okAgainst ⟨rd, wr⟩ (behind bs o) 0 fs with
    | false => simp [hc] at h2
    | true =>
      simp only [hc] at h2
      simp only [Bool.and_eq_true] at hc
      obtain ⟨S, fp, bh, k1, k2, k3⟩ := evDraw_trace l _ _ σ' h2
      have e1 : ∀ {β : Type} (f : Nat → β) (b0 : β) (i : Nat), (List.range (i + 1)).map (fun | 0 => b0 | i + 1 => f i) = b0 :: (List.range i).map f := by
        intro β f b0 i
        rw [List.range_succ_eq_map, List.map_cons, List.map_map]
        rfl
      refine ⟨fun | 0 => σ | i + 1 => S i, fun | 0 => ⟨rd, wr⟩ | i + 1 => fp i, fun | 0 => behind bs o | i + 1 => bh i, rfl, ⟨?_, ?_, ?_, ?_⟩, k3⟩
      · intro i o' hi
        cases i with
        | zero =>
          simp only [List.getElem?_cons_zero, Option.some.injEq] at hi
          subst hi
          simp only [k1]
          exact h1
        | succ i => exact k2.step i o' (by simpa using hi)
      · intro i o' hi
        cases i with
        | zero =>
          simp only [List.getElem?_cons_zero, Option.some.injEq] at hi
          subst hi
          simp
        | succ i =>
          have := k2.beh i o' (by simpa using hi)
          rw [e1]
          simpa using this
      · intro i o' hi
        cases i with
        | zero =>
          simp only [List.getElem?_cons_zero, Option.some.injEq] at hi
          subst hi
          simpa using hc.2
        | succ i =>
          have := k2.ok i o' (by simpa using hi)
          rw [e1]
          simpa using this
      · intro i o' hi
        cases i with
        | zero =>
          simp only [List.getElem?_cons_zero, Option.some.injEq] at hi
          subst hi
          exact hc.1
        | succ i =>
          have := k2.edges i o' (by simpa using hi)
          rw [List.length_append, List.length_singleton, Nat.add_assoc, Nat.add_comm 1 i] at this
          exact this

section
variable {E : Tb} {ops : Array Oper} {S : Nat → St} {fp : Nat → FP} {bh : Nat → List Nat} (T : Trace E ops ops.toList [] [] S fp bh)
include T

theorem Trace.clash {j i : Nat} (hji : j < i) (hi : i < ops.size) {s : Nat} (hs : (s ∈ (fp j).w ∧ (s ∈ (fp i).r ∨ s ∈ (fp i).w)) ∨ (s ∈ (fp j).r ∧ s ∈ (fp i).w)) : j ∈ bh i := by
  have ho : ops.toList[i]? = some ops[i] := by simp [hi]
  have h1 := T.ok i _ ho
  have h2 : ([] ++ (List.range i).map fp)[j]? = some (fp j) := by simp [hji]
  rcases okAgainst_at _ 0 h1 j _ h2 with h3 | h3
  · simpa using h3
  · exfalso
    simp only [indep, Bool.and_eq_true] at h3
    rcases hs with ⟨h4, h5 | h5⟩ | ⟨h4, h5⟩
    · exact disj_not h3.1.1 s h4 h5
    · exact disj_not h3.1.2 s h4 h5
    · exact disj_not h3.2 s h4 h5

theorem Trace.keep {k s : Nat} (hk : k < ops.size) (hs : s ∉ (fp k).w) : S (k + 1) s = S k s := by
  have ho : ops.toList[k]? = some ops[k] := by simp [hk]
  have h1 := T.step k _ ho
  obtain ⟨τ', h2, _, h3⟩ := Mp.runF_frame _ _ _ _ _ _ _ h1 (S k) (fun _ _ => rfl)
  rw [h1] at h2
  simp only [Option.some.injEq, Prod.mk.injEq, and_true] at h2
  rw [h2]
  exact h3 s hs
theorem Trace.same {m s : Nat} : ∀ i, m ≤ i → i ≤ ops.size → (∀ k, m ≤ k → k < i → s ∉ (fp k).w) → S i s = S m s := by
  intro i
  induction i with
  | zero => intro h _ _; have : m = 0 := by omega
            subst this; rfl
  | succ i ih =>
    intro h1 h2 h3
    by_cases e : m = i + 1
    · subst e; rfl
    · rw [T.keep (by omega) (h3 i (by omega) (by omega))]
      exact ih (by omega) (by omega) (fun k h4 h5 => h3 k h4 (by omega))

theorem Trace.vmono : ∀ i, i ≤ ops.size → VMono (S 0) (S i) := by
  intro i
  induction i with
  | zero => intro _; exact VMono.refl _
  | succ i ih =>
    intro h
    have ho : ops.toList[i]? = some ops[i] := by simp [show i < ops.size by omega]
    exact (ih (by omega)).trans (Mp.run_vmono _ _ _ (Mp.runF_run _ _ _ _ _ _ _ (T.step i _ ho)).1)

def Closed (ops : Array Oper) (L : Nat → Prop) : Prop := ∀ i o, L i → ops[i]? = some o → ∀ e ∈ o.after, Region.binds .any e = true → L e.on

theorem Trace.closed {L : Nat → Prop} (hL : Closed ops L) : ∀ i o, ops[i]? = some o → (∀ e ∈ o.after, Region.binds .any e = true → L e.on) → ∀ j ∈ bh i, L j := by
  intro i
  induction i using Nat.strongRecOn with
  | _ i ih =>
    intro o ho hE j hj
    have ho' : ops.toList[i]? = some o := by simpa using ho
    rw [T.beh i o ho'] at hj
    obtain ⟨e, h1, h2, h3⟩ := behind_mem.1 hj
    have h1' : e ∈ o.after := by simpa using h1
    have hed := T.edges i o ho'
    have hlt : e.on < i := by
      simp only [okEdges, List.all_eq_true] at hed
      have := hed e h1
      simp only [h2] at this
      simpa [Nat.blt_eq] using this
    rcases h3 with rfl | h3
    · exact hE e h1' h2
    · have hget : ([] ++ (List.range i).map bh)[e.on]? = some (bh e.on) := by simp [hlt]
      rw [hget] at h3
      have hlt2 : i < ops.size := by
        rcases Nat.lt_or_ge i ops.size with h | h
        · exact h
        · simp [Array.getElem?_eq_none h] at ho
      have ho2 : ops[e.on]? = some ops[e.on] := by simp [show e.on < ops.size by omega]
      exact ih e.on hlt _ ho2 (fun e' he' hb' => hL e.on _ (hE e h1' h2) ho2 e' he' hb') j h3

/-- What has been done so far, in whichever order. -/
def Inv (n : Nat) (S : Nat → St) (fp : Nat → FP) (L : Nat → Prop) (τ : St) : Prop := ∀ s, ∃ m, m ≤ n ∧ τ s = S m s ∧ (∀ i, i < n → L i → s ∈ (fp i).w → i < m) ∧ (m = 0 ∨ (L (m - 1) ∧ s ∈ (fp (m - 1)).w))

theorem Trace.inv_step {L : Nat → Prop} {τ : St} {i : Nat} {o : Oper} (hL : Closed ops L) (hi : ops[i]? = some o) (hn : ¬ L i) (hE : ∀ e ∈ o.after, Region.binds .any e = true → L e.on) (h : Inv ops.size S fp L τ) :
    ∃ τ', (guardK E ops o).run τ = some τ' ∧ Inv ops.size S fp (fun j => L j ∨ j = i) τ' := by
  have hlt : i < ops.size := by
    rcases Nat.lt_or_ge i ops.size with h | h
    · exact h
    · simp [Array.getElem?_eq_none h] at hi
  have hi' : ops.toList[i]? = some o := by simpa using hi
  have hbh := T.closed hL i o hi hE
  have hbL : ∀ j, j < ops.size → L j → ∀ k ∈ bh j, L k := fun j hj hLj => by
    have ho : ops[j]? = some ops[j] := by simp [hj]
    exact T.closed hL j _ ho (fun e he hb => hL j _ hLj ho e he hb)
  have agree : ∀ s, (s ∈ (fp i).r ∨ s ∈ (fp i).w) → τ s = S i s := by
    intro s hs
    obtain ⟨m, m1, m2, m3, m4⟩ := h s
    rw [m2]
    by_cases hmi : m ≤ i
    · refine (T.same i hmi (Nat.le_of_lt hlt) (fun k k1 k2 k3 => ?_)).symm
      have := m3 k (by omega) (hbh k (T.clash k2 hlt (.inl ⟨k3, hs⟩))) k3
      omega
    · exfalso
      rcases m4 with rfl | ⟨m4, m5⟩
      · omega
      · have hne : m - 1 ≠ i := fun e => hn (e ▸ m4)
        refine hn (hbL (m - 1) (by omega) m4 i (T.clash (by omega) (by omega) (s := s) ?_))
        rcases hs with hs | hs
        · exact .inr ⟨hs, m5⟩
        · exact .inl ⟨hs, .inr m5⟩
  have h1 := T.step i o hi'
  obtain ⟨τ', h2, h3, h4⟩ := Mp.runF_frame _ _ _ _ _ _ _ h1 τ agree
  refine ⟨τ', (Mp.runF_run _ _ _ _ _ _ _ h2).1, fun s => ?_⟩
  by_cases hs : s ∈ (fp i).w
  · refine ⟨i + 1, hlt, h3 s (agree s (.inr hs)), fun j j1 j2 j3 => ?_, .inr ⟨.inr (by simp), by simpa using hs⟩⟩
    rcases j2 with j2 | rfl
    · rcases Nat.lt_or_ge j (i + 1) with h5 | h5
      · exact h5
      · exact absurd (hbL j j1 j2 i (T.clash (by omega) j1 (.inl ⟨hs, .inr j3⟩))) hn
    · omega
  · obtain ⟨m, m1, m2, m3, m4⟩ := h s
    refine ⟨m, m1, (h4 s hs).trans m2, fun j j1 j2 j3 => ?_, m4.imp id (fun h5 => ⟨.inl h5.1, h5.2⟩)⟩
    rcases j2 with j2 | rfl
    · exact m3 j j1 j2 j3
    · exact absurd j3 hs

theorem Trace.inv_end {L : Nat → Prop} {τ : St} (hL : ∀ i, i < ops.size → L i) (h : Inv ops.size S fp L τ) : τ = S ops.size := by
  funext s
  obtain ⟨m, m1, m2, m3, m4⟩ := h s
  rw [m2]
  refine (T.same ops.size m1 (Nat.le_refl _) (fun k k1 k2 k3 => ?_)).symm
  have := m3 k k2 (hL k k2) k3
  omega
end

theorem filter_lt {p q : Nat → Bool} {i : Nat} (h1 : ∀ j, q j = true → p j = true) (h2 : p i = true) (h3 : q i = false) : ∀ l : List Nat, i ∈ l → (l.filter q).length < (l.filter p).length := by
  have hle : ∀ l : List Nat, (l.filter q).length ≤ (l.filter p).length := by
    intro l
    induction l with
    | nil => simp
    | cons a l ih =>
      simp only [List.filter_cons]
      by_cases hq : q a = true
      · rw [if_pos hq, if_pos (h1 a hq)]; simpa using ih
      · rw [if_neg hq]
        split
        · simp; omega
        · exact ih
  intro l
  induction l with
  | nil => intro h; simp at h
  | cons a l ih =>
    intro h
    simp only [List.filter_cons]
    rcases List.mem_cons.1 h with rfl | h
    · rw [if_pos h2, if_neg (by simp [h3])]
      have := hle l
      simp; omega
    · have := ih h
      by_cases hq : q a = true
      · rw [if_pos hq, if_pos (h1 a hq)]; simpa using this
      · rw [if_neg hq]
        split
        · simp; omega
        · exact this

section
variable {c : Cx} (he : EnvOK c) (ht : TyOK c.P c.E.ty) {Q : Exit → Act → World → Prop} {ops : Array Oper} {α : Type} {r : α} {kn : St → Option α}
  {σb : St} (hQ : ∀ σ' a' w' F' G', kn σ' = some r → VMono σb σ' → Sim c σ' a' w' [] F' G' → Q .normal a' w')
include he ht hQ

theorem any_ok {S : Nat → St} {fp : Nat → FP} {bh : Nat → List Nat} (T : Trace c.E ops ops.toList [] [] S fp bh) (hk : kn (S ops.size) = some r) (hvm : VMono σb (S ops.size)) :
    ∀ (fuel : Nat) (listed : Array Bool) (τ : St) (a : Act) (w : World) (F : Nat → List Nat) (G : Nat → Value), listed.size = ops.size → Inv ops.size S fp (fun i => listed.getD i false = true) τ → Closed ops (fun i => listed.getD i false = true) →
      ((List.range ops.size).filter fun i => !listed.getD i false).length ≤ fuel → Sim c τ a w [] F G → wpAny c.P .any ops Q fuel listed a w := by
  have hgd : ∀ (listed : Array Bool) (i : Nat) (b b' : Bool), i < listed.size → listed.getD i b = listed.getD i b' := by intro l i b b' h; simp [h]
  have fin : ∀ (listed : Array Bool) (τ : St) (a : Act) (w : World) (F : Nat → List Nat) (G : Nat → Value), Inv ops.size S fp (fun i => listed.getD i false = true) τ → (∀ i, i < ops.size → listed.getD i false = true) → Sim c τ a w [] F G → Q .normal a w := by
    intro listed τ a w F G hI hall hs
    have := T.inv_end hall hI
    subst this
    exact hQ _ _ _ _ _ hk hvm hs
  intro fuel
  induction fuel with
  | zero =>
    intro listed τ a w F G hsz hI hc hcnt hs
    have hall : ∀ i, i < ops.size → listed.getD i false = true := by
      intro i hi
      cases hb : listed.getD i false with
      | true => rfl
      | false =>
        have : i ∈ (List.range ops.size).filter fun i => !listed.getD i false := List.mem_filter.2 ⟨List.mem_range.2 hi, by simp only [hb, Bool.not_false]⟩
        have := List.length_pos_of_mem this
        omega
    refine ⟨?_, fin listed τ a w F G hI hall hs⟩
    apply List.eq_nil_iff_forall_not_mem.2
    intro j hj
    obtain ⟨h1, o, h2, _⟩ := mem_ready.1 hj
    have hlt : j < ops.size := (Array.getElem?_eq_some_iff.1 h2).1
    have := hall j hlt
    rw [hgd listed j false true (by omega)] at this
    rw [this] at h1
    cases h1
  | succ fuel ih =>
    intro listed τ a w F G hsz hI hc hcnt hs
    refine ⟨fun hr => ?_, fun i hi => ?_⟩
    · refine fin listed τ a w F G hI ?_ hs
      intro i
      induction i using Nat.strongRecOn with
      | _ i ih2 =>
        intro hi
        cases hb : listed.getD i false with
        | true => rfl
        | false =>
          exfalso
          have ho : ops[i]? = some ops[i] := by simp [hi]
          have ho' : ops.toList[i]? = some ops[i] := by simp [hi]
          have : i ∈ Region.ready .any ops listed := by
            refine mem_ready.2 ⟨by rw [hgd listed i true false (by omega)]; exact hb, ops[i], ho, fun e he hbe => ?_⟩
            have hed := T.edges i _ ho'
            simp only [okEdges, List.all_eq_true] at hed
            have := hed e (by simpa using he)
            simp only [hbe] at this
            have hlt : e.on < i := by simpa [Nat.blt_eq] using this
            exact ih2 e.on hlt (by omega)
          rw [hr] at this
          cases this
    · obtain ⟨h1, o, h2, h3⟩ := mem_ready.1 hi
      have hlt : i < ops.size := (Array.getElem?_eq_some_iff.1 h2).1
      have hnl : ¬ listed.getD i false = true := by
        rw [hgd listed i false true (by omega), h1]; simp
      obtain ⟨τ', k1, k2⟩ := T.inv_step hc h2 hnl h3 hI
      have hset : ∀ j, (listed.setIfInBounds i true).getD j false = true ↔ (listed.getD j false = true ∨ j = i) := by
        intro j
        by_cases e : j = i
        · subst e; simp [show j < listed.size by omega]
        · rw [getD_set_ne false (Ne.symm e)]; simp [e]
      have hfun : (fun j => (listed.setIfInBounds i true).getD j false = true) = (fun j => listed.getD j false = true ∨ j = i) := funext fun j => propext (hset j)
      have hgo := (guard_ok he ht hs (Q := Q) k1).mono (K' := wpAny c.P .any ops Q fuel (listed.setIfInBounds i true)) (fun a' w' ⟨F', G', h'⟩ => by
        refine ih (listed.setIfInBounds i true) τ' a' w' F' G' (by simpa using hsz) (by rw [hfun]; exact k2) ?_ ?_ h'
        · intro j oj hj hoj e hee hb
          rw [hset] at hj ⊢
          rcases hj with hj | rfl
          · exact .inl (hc j oj hj hoj e hee hb)
          · rw [h2] at hoj
            obtain rfl := Option.some.inj hoj
            exact .inl (h3 e hee hb)
        · have := filter_lt (p := fun j => !listed.getD j false) (q := fun j => !(listed.setIfInBounds i true).getD j false) (i := i) (fun j hj => by
            cases hb : listed.getD j false with
            | false => rfl
            | true => rw [(hset j).2 (.inl hb)] at hj; cases hj) (by
            cases hb : listed.getD i false with
            | false => rfl
            | true => exact absurd hb hnl) (by rw [(hset i).2 (.inr rfl)]; rfl) (List.range ops.size) (List.mem_range.2 hlt)
          omega)
      unfold wpOp
      rw [h2]
      exact hgo

/-- A region, in the list's order or in any. -/
theorem region_ok (hm : c.P.follows .mixedOrders = true) {id : Nat} {draw : Bool} {a : Act} {w : World} {F : Nat → List Nat} {G : Nat → Value} (h : Sim c σb a w [] F G)
    (hr : (match draw with | true => evDraw c.E ops ops.toList [] [] σb kn | false => evOps c.E ops ops.toList σb kn) = some r) : (Code.region id ops draw).wp c.P Q a w := by
  cases draw with
  | false => exact wp_region_list (evOps_ok he ht hQ _ σb a w F G h (VMono.refl _) hr)
  | true =>
    obtain ⟨S, fp, bh, k1, T, k3⟩ := evDraw_trace _ _ _ _ hr
    rw [Array.length_toList] at k3
    refine wp_region_any hm ?_
    have hno : ∀ i, ¬ (Array.replicate ops.size false).getD i false = true := by
      intro i
      by_cases hi : i < ops.size <;> simp [hi]
    refine any_ok he ht hQ T k3 (k1 ▸ T.vmono ops.size (Nat.le_refl _)) ops.size _ σb a _ F G (by simp) (fun s => ⟨0, Nat.zero_le _, by rw [k1], fun i _ hL => absurd hL (hno i), .inl rfl⟩) (fun i o hL => absurd hL (hno i)) ?_ (h.world (w' := { w with drawn := w.drawn + 1 }) ⟨rfl, rfl, rfl, Nat.le_refl _, fun _ _ _ => rfl⟩ (by simp) (by simp))
    exact Nat.le_trans (List.length_filter_le _ _) (by simp)
end
end Net

/- Loops' shapes: what is known at a loop's head. -/
namespace Net
open Go
set_option linter.unusedVariables false
set_option linter.unusedSectionVars false

theorem tagEqs_TRL' {w : World} {I : Bool → Nat → Prop} : ∀ (gs hs : List Tag) (ts : List Ty) (x : HL ts) (cs : List Value) (f : List Nat), argsK.tagEqs gs hs = true → TRL w I gs ts x cs f → TRL w I hs ts x cs f
  | [], [], ts, x, cs, f, _, h => h
  | g :: gs, g' :: hs, [], x, cs, f, _, h => by simp [TRL] at h
  | g :: gs, g' :: hs, t :: ts, x, cs, f, he, h => by
    simp only [TRL] at h ⊢
    obtain ⟨c1, c2, f1, f2, rfl, rfl, h1, h2⟩ := h
    simp only [argsK.tagEqs, Bool.and_eq_true] at he
    refine ⟨c1, c2, f1, f2, rfl, rfl, ?_, tagEqs_TRL' gs hs ts _ _ _ he.2 h2⟩
    have he1 := he.1
    cases g <;> cases g' <;> simp only [reduceCtorEq] at he1
    · have := eq_of_beq he1
      subst this
      exact h1
    · exact h1
  | [], _ :: _, _, _, _, _, h, _ | _ :: _, [], _, _, _, _, h, _ => by simp [argsK.tagEqs] at h
theorem tagIs_TR {w : World} {I : Bool → Nat → Prop} {t : Ty} {g g' : Tag} {x : El t} {cs : List Value} {f : List Nat} (he : tagIs t g g' = true) (h : TR w I g t x cs f) : TR w I g' t x cs f := by
  unfold tagIs at he
  cases g' with
  | own =>
    have ho : ownT t g = true := by cases g <;> exact he
    obtain ⟨d, hd⟩ := TR_own _ _ _ _ _ ho (ownT_alive _ _ ho) h
    exact TR_of_own hd
  | imm b =>
    cases g <;> simp only [argsK.tagEq, reduceCtorEq] at he
    have := eq_of_beq he
    subst this
    exact h
  | dead => cases g <;> simp [argsK.tagEq] at he
  | os g' => cases g <;> simp [argsK.tagEq] at he
  | st hs =>
    cases g <;> simp only [argsK.tagEq, reduceCtorEq] at he
    cases t with
    | st s =>
      simp only [TR] at h ⊢
      exact tagEqs_TRL' _ _ _ _ _ _ he h
    | _ => simp [TR] at h

theorem stepsEq_iff : ∀ (p : List Step) (q : List Nat), stepsEq p q = true → p = q.map .f
  | [], [], _ => rfl
  | .f i :: p, j :: q, h => by
    simp only [stepsEq, Bool.and_eq_true] at h
    have := Nat.eq_of_beq_eq_true h.1
    subst this
    rw [stepsEq_iff p q h.2]; rfl
  | .ix _ :: _, _ :: _, h | [], _ :: _, h | .f _ :: _, [], h | .ix _ :: _, [], h => by simp [stepsEq] at h

theorem GetAt_fun : ∀ (p : List Step) (t : Ty) (x : El t) (u : Ty) (y : El u) (v : Ty) (z : El v), GetAt t x p u y → GetAt t x p v z → (⟨u, y⟩ : (t : Ty) × El t) = ⟨v, z⟩
  | [], t, x, u, y, v, z, h, k => by
    have h : (⟨t, x⟩ : (t : Ty) × El t) = ⟨u, y⟩ := by cases t <;> exact h
    have k : (⟨t, x⟩ : (t : Ty) × El t) = ⟨v, z⟩ := by cases t <;> exact k
    exact h.symm.trans k
  | .f i :: p, .st s, x, u, y, v, z, h, k => by
    obtain ⟨u1, y1, h1, h2⟩ := h
    obtain ⟨u2, y2, k1, k2⟩ := k
    rw [h1] at k1
    simp only [Option.some.injEq, Sigma.mk.injEq] at k1
    obtain ⟨rfl, e⟩ := k1
    have e := eq_of_heq e
    subst e
    exact GetAt_fun p _ _ _ _ _ _ h2 k2
  | .ix n :: p, .sl e, x, u, y, v, z, h, k => by
    obtain ⟨y1, h1, h2⟩ := h
    obtain ⟨y2, k1, k2⟩ := k
    rw [h1] at k1
    simp only [Option.some.injEq] at k1
    subst k1
    exact GetAt_fun p _ _ _ _ _ _ h2 k2
  | .f i :: p, .int _, _, _, _, _, _, h, _ | .f i :: p, .bool, _, _, _, _, _, h, _ | .f i :: p, .str, _, _, _, _, _, h, _ | .f i :: p, .sl _, _, _, _, _, _, h, _ => h.elim
  | .ix i :: p, .int _, _, _, _, _, _, h, _ | .ix i :: p, .bool, _, _, _, _, _, h, _ | .ix i :: p, .str, _, _, _, _, _, h, _ | .ix i :: p, .st _, _, _, _, _, _, h, _ => h.elim

theorem lay_same (σ : St) (n : Nat) (av : AV) : σ.lay n av n = (av, (σ n).2) := by simp [St.lay]
theorem lay_other (σ : St) (n i : Nat) (av : AV) (h : i ≠ n) : σ.lay n av i = σ i := by
  simp only [St.lay]
  have : Nat.beq i n = false := by
    cases hb : Nat.beq i n
    · rfl
    · exact absurd (Nat.eq_of_beq_eq_true hb) h
  rw [this]

/-- A slot that was empty is laid: the others say what they said. -/
theorem lay_stable {c : Cx} {σ : St} {vl : Nat → Value} {w : World} {F : Nat → List Nat} {G : Nat → Value} {n : Nat} {av0 : AV} {f1 : List Nat} (hn : (σ n).1 = .dead) (hF : F n = []) {v : Value} {f : List Nat} {av : AV} (h : SlotV c σ vl w F G v f av) :
    SlotV c (σ.lay n av0) vl w (fun i => if i = n then f1 else F i) G v f av := by
  have hv : ∀ r, ((σ.lay n av0) r).2 = (σ r).2 := by
    intro r
    by_cases e : r = n
    · subst e; rw [lay_same]
    · rw [lay_other _ _ _ _ e]
  have hsub : ∀ r b, b ∈ F r → b ∈ (fun i => if i = n then f1 else F i) r := by
    intro r b hb
    by_cases e : r = n
    · subst e; rw [hF] at hb; simp at hb
    · simp only [if_neg e]; exact hb
  have hsrc : ∀ q b, srcJ c F q b → srcJ c (fun i => if i = n then f1 else F i) q b := by
    intro q b hb
    cases q with
    | slot r m => exact hb.imp id (hsub r b)
    | _ => exact hb
  have hpast : ∀ q, srcPast σ q → srcPast (σ.lay n av0) q := by
    intro q hq
    cases q with
    | slot r m => show m ≤ _; rw [hv]; exact hq
    | _ => trivial
  have hlive : ∀ q, srcLive (σ.lay n av0) q → srcLive σ q := by
    intro q hq
    cases q with
    | slot r m => have : m = ((σ.lay n av0) r).2 := hq
                  rw [hv] at this; exact this
    | _ => trivial
  have hroot : ∀ {r : Nat} {v : Value} {tr : Ty} {xr : El tr} {gr : Tag} {A : Option Addr} {cs : List Value} {f : List Nat}, Root c.I w v (σ r).1 (F r) tr xr gr A cs f → r ≠ n := by
    rintro r v tr xr gr A cs f hr rfl
    rw [hn] at hr
    generalize hFr : F r = Fr at hr
    cases hr
  cases av with
  | dead => trivial
  | und => exact h
  | own t x g => exact h
  | vw t x q =>
    obtain ⟨hp, h⟩ := h
    refine ⟨hpast q hp, fun hl => ?_⟩
    obtain ⟨d, cs, h4, h5⟩ := h (hlive q hl)
    exact ⟨d, cs, h4, RI_same (hsrc q) (fun _ _ => rfl) _ _ _ _ h5⟩
  | al t x r m up ex =>
    obtain ⟨hp, h⟩ := h
    refine ⟨by rw [hv]; exact hp, fun hm => ?_⟩
    rw [hv] at hm
    obtain ⟨cs, tr, xr, gr, A, rc, fr, h1, h2, h3, h4⟩ := h hm
    have hne := hroot h2
    have hF' : (fun i => if i = n then f1 else F i) r = F r := if_neg hne
    refine ⟨cs, tr, xr, gr, A, rc, fr, h1, ?_, ?_, ?_⟩
    · rw [lay_other _ _ _ _ hne, hF']; exact h2
    · rw [hF']; exact h3
    · intro hex
      rw [hF']; exact h4 hex
  | box t x g => exact h
  | ptr t x r m up =>
    obtain ⟨hp, h⟩ := h
    refine ⟨by rw [hv]; exact hp, fun hm => ?_⟩
    rw [hv] at hm
    obtain ⟨ad, cs, tr, xr, gr, A, rc, fr, h1, h2, h3, h4⟩ := h hm
    have hne := hroot h2
    have hF' : (fun i => if i = n then f1 else F i) r = F r := if_neg hne
    refine ⟨ad, cs, tr, xr, gr, A, rc, fr, h1, ?_, h3, ?_⟩
    · rw [lay_other _ _ _ _ hne, hF']; exact h2
    · rw [hF']; exact h4
  | bcp t s => exact h
  | pcp t u s p rb m =>
    obtain ⟨hp, h⟩ := h
    refine ⟨by rw [hv]; exact hp, fun hm => ?_⟩
    rw [hv] at hm
    obtain ⟨h1, h2, b, o, cs, h3, h4, h5, h6, h7, h8⟩ := h hm
    exact ⟨h1, h2, b, o, cs, h3, h4, h5, h6, h7, hsub rb b h8⟩
  | pvw t x q =>
    obtain ⟨hp, h⟩ := h
    refine ⟨hpast q hp, fun hl => ?_⟩
    obtain ⟨d, a, cs, h4, h5, h6, h7⟩ := h (hlive q hl)
    exact ⟨d, a, cs, h4, h5, hsrc q _ h6, RI_same (hsrc q) (fun _ _ => rfl) _ _ _ _ h7⟩
  | tup s k m =>
    obtain ⟨hp, hk4, hnt, h⟩ := h
    refine ⟨by rw [hv]; exact hp, hk4, hnt, fun hm => ?_⟩
    rw [hv] at hm
    exact h hm
  | clo as r Fn q =>
    obtain ⟨hp, h⟩ := h
    refine ⟨fun z hz => by rw [hv]; exact hp z hz, fun hl => ?_⟩
    obtain ⟨h1, h2⟩ := h (fun z hz => by rw [← hv]; exact hl z hz)
    exact ⟨h1, CloOK_same (fun b hb => hb.imp id (fun ⟨z, hz, hb⟩ => ⟨z, hz, hsub _ _ hb⟩)) (fun _ _ => rfl) (Nat.le_refl _) h2⟩

/-- What is laid so far. -/
structure Laid (c : Cx) (σ0 : St) (vl : Nat → Value) (w : World) (F0 : Nat → List Nat) (G : Nat → Value) (keep : List Nat) (σ : St) (F : Nat → List Nat) : Prop where
  sv : ∀ i, SlotV c σ vl w F G (vl i) (F i) (σ i).1
  fp : ∀ i, F i = F0 i ∨ F i = []
  own : ∀ i t x g, (σ i).1 = .own t x g → F i = F0 i ∧ ∃ g0, (σ0 i).1 = .own t x g0
  box : ∀ i t x g, (σ i).1 = .box t x g → F i = F0 i ∧ ∃ g0, (σ0 i).1 = .box t x g0
  gone : ∀ i, i ∉ keep → (σ i).1 = .dead → F i = []

theorem Laid.step {c : Cx} {σ0 : St} {vl : Nat → Value} {w : World} {F0 : Nat → List Nat} {G : Nat → Value} {keep : List Nat} {σ : St} {F : Nat → List Nat} (h : Laid c σ0 vl w F0 G keep σ F) {n : Nat} (hn : (σ n).1 = .dead) (hnk : n ∉ keep) {av : AV} {f1 : List Nat} (hf : f1 = F0 n ∨ f1 = [])
    (hsv : SlotV c (σ.lay n av) vl w (fun i => if i = n then f1 else F i) G (vl n) f1 av) (ho : ∀ t x g, av = .own t x g → f1 = F0 n ∧ ∃ g0, (σ0 n).1 = .own t x g0) (hb : ∀ t x g, av = .box t x g → f1 = F0 n ∧ ∃ g0, (σ0 n).1 = .box t x g0) (hd : av = .dead → f1 = []) :
    Laid c σ0 vl w F0 G keep (σ.lay n av) (fun i => if i = n then f1 else F i) := by
  have hFn := h.gone n hnk hn
  constructor
  · intro i
    by_cases e : i = n
    · subst e; rw [lay_same, if_pos rfl]; exact hsv
    · rw [lay_other _ _ _ _ e, if_neg e]; exact lay_stable hn hFn (h.sv i)
  · intro i
    by_cases e : i = n
    · subst e; rw [if_pos rfl]; exact hf
    · rw [if_neg e]; exact h.fp i
  · intro i t x g hi
    by_cases e : i = n
    · subst e; rw [lay_same] at hi; rw [if_pos rfl]; exact ho t x g hi
    · rw [lay_other _ _ _ _ e] at hi; rw [if_neg e]; exact h.own i t x g hi
  · intro i t x g hi
    by_cases e : i = n
    · subst e; rw [lay_same] at hi; rw [if_pos rfl]; exact hb t x g hi
    · rw [lay_other _ _ _ _ e] at hi; rw [if_neg e]; exact h.box i t x g hi
  · intro i hk hi
    by_cases e : i = n
    · subst e; rw [lay_same] at hi; rw [if_pos rfl]; exact hd hi
    · rw [lay_other _ _ _ _ e] at hi; rw [if_neg e]; exact h.gone i hk hi

/-- A laid state is one of the simulation's. -/
theorem Laid.sim {c : Cx} {σ0 σ : St} {a : Act} {w : World} {X : List Nat} {F0 F : Nat → List Nat} {G : Nat → Value} (hs : Sim c σ0 a w X F0 G) {keep : List Nat} (h : Laid c σ0 (val c a G) w F0 G keep σ F) : Sim c σ a w [] F G := by
  have hsub : ∀ s, ∀ b ∈ F s, b ∈ F0 s := by
    intro s b hb
    rcases h.fp s with e | e
    · rw [e] at hb; exact hb
    · rw [e] at hb; simp at hb
  refine { defers := hs.defers, size := hs.size, grow := hs.grow, keep := hs.keep, kip := hs.kip, os := hs.os, tape := hs.tape, output := hs.output, old := hs.old, nodup := ?_, disj := fun s s' hne b hb hb' => hs.disj s s' hne b (hsub s b hb) (hsub s' b hb'),
           rng := fun s b hb => hs.rng s b (hsub s b hb), xnodup := List.nodup_nil, xdisj := by simp, xrng := by simp, slot := h.sv, fixed := hs.fixed }
  intro s
  rcases h.fp s with e | e
  · rw [e]; exact hs.nodup s
  · rw [e]; exact List.nodup_nil

/-- What an abstract value refers to was there. -/
def pastOK (σ : St) : AV → Prop
  | .vw _ _ q => srcPast σ q
  | .pvw _ _ q => srcPast σ q
  | .al _ _ r m _ _ => m ≤ (σ r).2
  | .ptr _ _ r m _ => m ≤ (σ r).2
  | .pcp _ _ _ _ rb m => m ≤ (σ rb).2
  | .tup s _ m => m ≤ (σ (s + 3)).2
  | .clo _ _ _ q => ∀ z ∈ q, z.2 ≤ (σ z.1).2
  | _ => True
theorem SlotV.past {c : Cx} {σ : St} {vl : Nat → Value} {w : World} {F : Nat → List Nat} {G : Nat → Value} {v : Value} {f : List Nat} {av : AV} (h : SlotV c σ vl w F G v f av) : pastOK σ av := by
  cases av <;> first | exact h.1 | trivial

/-- Some slots stay, the others are forgotten under versions of their own. -/
theorem SlotV.rebase {c : Cx} {σ σr σ' : St} {vl : Nat → Value} {w : World} {F F' : Nat → List Nat} {G : Nat → Value} {v : Value} {f : List Nat} {av : AV} (K : Nat → Prop)
    (hK : ∀ r, K r → σ' r = σ r ∧ F' r = F r) (hn : ∀ r, ¬ K r → (σr r).2 < (σ' r).2) (hp : pastOK σr av) (h : SlotV c σ vl w F G v f av) : SlotV c σ' vl w F' G v f av := by
  have hlive : ∀ r m, m ≤ (σr r).2 → m = (σ' r).2 → K r ∧ m = (σ r).2 := by
    intro r m h1 h2
    by_cases hr : K r
    · exact ⟨hr, by rw [h2, (hK r hr).1]⟩
    · have := hn r hr; omega
  have hle : ∀ r m, m ≤ (σr r).2 → m ≤ (σ r).2 → m ≤ (σ' r).2 := by
    intro r m h1 h2
    by_cases hr : K r
    · rw [(hK r hr).1]; exact h2
    · have := hn r hr; omega
  have hsrcP : ∀ q, srcPast σr q → srcPast σ q → srcPast σ' q := by
    intro q h1 h2
    cases q with
    | slot r m => exact hle r m h1 h2
    | _ => trivial
  have hsrcL : ∀ q, srcPast σr q → srcLive σ' q → srcLive σ q ∧ ∀ b, srcJ c F q b → srcJ c F' q b := by
    intro q h1 h2
    cases q with
    | slot r m =>
      obtain ⟨hr, hm⟩ := hlive r m h1 h2
      refine ⟨hm, fun b hb => ?_⟩
      simp only [srcJ] at hb ⊢; rw [(hK r hr).2]; exact hb
    | _ => exact ⟨trivial, fun _ h => h⟩
  cases av with
  | dead => trivial
  | und => exact h
  | own t x g => exact h
  | vw t x q =>
    obtain ⟨h1, h⟩ := h
    refine ⟨hsrcP q hp h1, fun hl => ?_⟩
    obtain ⟨k1, k2⟩ := hsrcL q hp hl
    obtain ⟨d, cs, h4, h5⟩ := h k1
    exact ⟨d, cs, h4, RI_same k2 (fun _ _ => rfl) _ _ _ _ h5⟩
  | al t x r m up ex =>
    obtain ⟨h1, h⟩ := h
    refine ⟨hle r m hp h1, fun hm => ?_⟩
    obtain ⟨hr, hm⟩ := hlive r m hp hm
    obtain ⟨cs, tr, xr, gr, A, rc, fr, k1, k2, k3, k4⟩ := h hm
    obtain ⟨e1, e2⟩ := hK r hr
    refine ⟨cs, tr, xr, gr, A, rc, fr, k1, ?_, ?_, ?_⟩
    · rw [e1, e2]; exact k2
    · rw [e2]; exact k3
    · rw [e2]; exact k4
  | box t x g => exact h
  | ptr t x r m up =>
    obtain ⟨h1, h⟩ := h
    refine ⟨hle r m hp h1, fun hm => ?_⟩
    obtain ⟨hr, hm⟩ := hlive r m hp hm
    obtain ⟨ad, cs, tr, xr, gr, A, rc, fr, k1, k2, k3, k4⟩ := h hm
    obtain ⟨e1, e2⟩ := hK r hr
    refine ⟨ad, cs, tr, xr, gr, A, rc, fr, k1, ?_, k3, ?_⟩
    · rw [e1, e2]; exact k2
    · rw [e2]; exact k4
  | bcp t s => exact h
  | pcp t u s p rb m =>
    obtain ⟨h1, h⟩ := h
    refine ⟨hle rb m hp h1, fun hm => ?_⟩
    obtain ⟨hr, hm⟩ := hlive rb m hp hm
    obtain ⟨q1, q2, b, o, cs, h3, h4, h5, h6, h7, h8⟩ := h hm
    exact ⟨q1, q2, b, o, cs, h3, h4, h5, h6, h7, by rw [(hK rb hr).2]; exact h8⟩
  | pvw t x q =>
    obtain ⟨h1, h⟩ := h
    refine ⟨hsrcP q hp h1, fun hl => ?_⟩
    obtain ⟨k1, k2⟩ := hsrcL q hp hl
    obtain ⟨d, a, cs, h4, h5, h6, h7⟩ := h k1
    exact ⟨d, a, cs, h4, h5, k2 _ h6, RI_same k2 (fun _ _ => rfl) _ _ _ _ h7⟩
  | tup s k m =>
    obtain ⟨h1, hk4, hnt, h⟩ := h
    refine ⟨hle _ m hp h1, hk4, hnt, fun hm => ?_⟩
    exact h (hlive _ m hp hm).2
  | clo as r Fn q =>
    obtain ⟨h1, h⟩ := h
    refine ⟨fun z hz => hle _ _ (hp z hz) (h1 z hz), fun hl => ?_⟩
    obtain ⟨k1, k2⟩ := h (fun z hz => (hlive _ _ (hp z hz) (hl z hz)).2)
    refine ⟨k1, CloOK_same (fun b hb => hb.imp id (fun ⟨z, hz, hb⟩ => ⟨z, hz, ?_⟩)) (fun _ _ => rfl) (Nat.le_refl _) k2⟩
    rw [(hK _ (hlive _ _ (hp z hz) (hl z hz)).1).2]; exact hb

theorem keepSt_in {keep : List Nat} {σ : St} {i : Nat} (h : i ∈ keep) : keepSt keep σ i = σ i := by simp [keepSt, memN_iff.2 h]
theorem keepSt_out {keep : List Nat} {σ : St} {i : Nat} (h : i ∉ keep) : keepSt keep σ i = (.dead, (σ i).2 + 1) := by
  have : memN i keep = false := by
    cases hb : memN i keep with
    | false => rfl
    | true => exact absurd (memN_iff.1 hb) h
  simp [keepSt, this]

/-- What stays, of a state that agrees with an earlier one there. -/
theorem Laid.start {c : Cx} {σ0 σr : St} {a : Act} {w : World} {X : List Nat} {F0 : Nat → List Nat} {G : Nat → Value} (hs : Sim c σ0 a w X F0 G) {keep : List Nat} (hk : ∀ i ∈ keep, σ0 i = σr i) (hp : ∀ i ∈ keep, pastOK σr (σr i).1) :
    Laid c σ0 (val c a G) w F0 G keep (keepSt keep σr) (fun i => if i ∈ keep then F0 i else []) := by
  constructor
  · intro i
    by_cases e : i ∈ keep
    · rw [keepSt_in e, if_pos e, ← hk i e]
      refine (hs.slot i).rebase (σr := σr) (fun r => r ∈ keep) (fun r hr => ⟨by rw [keepSt_in hr, hk r hr], if_pos hr⟩) (fun r hr => by rw [keepSt_out hr]; exact Nat.lt_succ_self _) ?_
      rw [hk i e]; exact hp i e
    · rw [keepSt_out e]; trivial
  · intro i
    by_cases e : i ∈ keep
    · exact .inl (if_pos e)
    · exact .inr (if_neg e)
  · intro i t x g hi
    by_cases e : i ∈ keep
    · rw [keepSt_in e, ← hk i e] at hi; exact ⟨if_pos e, g, hi⟩
    · rw [keepSt_out e] at hi; cases hi
  · intro i t x g hi
    by_cases e : i ∈ keep
    · rw [keepSt_in e, ← hk i e] at hi; exact ⟨if_pos e, g, hi⟩
    · rw [keepSt_out e] at hi; cases hi
  · intro i hi _
    exact if_neg hi

/-- A place below fields, of what is laid: as it was in the state before. -/
theorem Laid.alias {c : Cx} {σ0 σ : St} {a : Act} {w : World} {X : List Nat} {F0 F : Nat → List Nat} {G : Nat → Value} (hs : Sim c σ0 a w X F0 G) {keep : List Nat} (h : Laid c σ0 (val c a G) w F0 G keep σ F) {s : Nat} {q : List Nat}
    {t0 : Ty} {x0 : El t0} {up0 : Up} {tr : Ty} {xr : El tr} {gr : Tag} {A : Option Addr} {rc fr : List Value} {f0 : List Nat} {A' : Option Addr} {cs : List Value}
    (hr0 : Root c.I w (val c a G s) (σ0 s).1 (F0 s) tr xr gr A rc f0) (hc0 : Chain up0 t0 x0 tr xr) (hst : stepsOf up0 = q.map .f) (hp0 : PathTo w (fun b => c.Ip b ∨ b ∈ F0 s) tr A rc (stepsOf up0) A' cs)
    {t : Ty} {x : El t} {g : Tag} (hav : (σ s).1 = .own t x g ∨ (σ s).1 = .box t x g) {u : Ty} {y : El u} {up : Up} (hw : walkF t x q [] = some (⟨u, y⟩, up)) :
    (⟨t0, x0⟩ : (t : Ty) × El t) = ⟨u, y⟩ ∧ ∃ f, Root c.I w (val c a G s) (σ s).1 (F s) t x g A rc f ∧ Chain up u y t x ∧ PathTo w (fun b => c.Ip b ∨ b ∈ F s) t A rc (stepsOf up) A' cs := by
  have hroot : (⟨t, x⟩ : (t : Ty) × El t) = ⟨tr, xr⟩ ∧ F s = F0 s ∧ ∃ f, Root c.I w (val c a G s) (σ s).1 (F s) t x g A rc f := by
    have hsv := h.sv s
    rcases hav with hav | hav
    · obtain ⟨e1, g0, e2⟩ := h.own s t x g hav
      rw [hav] at hsv
      obtain ⟨cs1, m1, m2⟩ := hsv
      rw [e2] at hr0
      generalize F0 s = F0s at hr0 e1
      cases hr0 with
      | own k1 k2 =>
        rw [m1] at k1
        have := mkV_inj k1 (TR_len _ _ _ _ _ m2) (TR_len _ _ _ _ _ k2)
        subst this
        exact ⟨rfl, e1, F s, by rw [hav]; exact .own m1 m2⟩
    · obtain ⟨e1, g0, e2⟩ := h.box s t x g hav
      rw [hav] at hsv
      obtain ⟨b1, cs1, f1, m1, m2, m3, m4⟩ := hsv
      rw [e2] at hr0
      generalize F0 s = F0s at hr0 e1
      cases hr0 with
      | box k1 k2 k3 =>
        rw [m1] at k1
        simp only [Value.pointer.injEq, Option.some.injEq, Addr.mk.injEq, and_true] at k1
        subst k1
        have : cs1 = rc := by
          obtain ⟨et, z1⟩ := m2
          obtain ⟨et', z2⟩ := k2
          rw [z1] at z2
          simp only [Option.some.injEq, Obj.cells.injEq] at z2
          have := z2.1
          simpa using this
        subst this
        exact ⟨rfl, e1, f1, by rw [hav, m4]; exact .box m1 m2 m3⟩
  obtain ⟨e, eF, f, hroot⟩ := hroot
  simp only [Sigma.mk.injEq] at e
  obtain ⟨rfl, e⟩ := e
  have e := eq_of_heq e
  subst e
  obtain ⟨hch, hsteps⟩ := walkF_chain q t x [] u y up hw (by rfl)
  have hsteps' : stepsOf up = stepsOf up0 := by rw [hsteps, hst]; rfl
  refine ⟨GetAt_fun _ _ _ _ _ _ _ hc0.get (hsteps' ▸ hch.get), f, hroot, hch, ?_⟩
  rw [hsteps', eF]
  exact hp0
end Net
