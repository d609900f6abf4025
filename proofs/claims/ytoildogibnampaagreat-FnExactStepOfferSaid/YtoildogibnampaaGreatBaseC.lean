/- A walk by plain functions, part 3: that what a region of operations does is what a plain function says, for any program whose types are at hand. -/
import Derived.Test.YtoildogibnampaaGreatBaseB
import Derived.Laws.StructEq

/- The last step of an operation: a slot is set; moves and assignments. -/
namespace Net
open Go
set_option linter.unusedVariables false

theorem setD_run {c : Cx} {d : Option Nat} {av : AV} {k : Mp} {σ σ' : St} (h : (setD c.E d av k).run σ = some σ') : (d = none ∧ k.run σ = some σ') ∨ ∃ d', d = some d' ∧ d' < c.E.nt ∧ isIo d' c.E.io = false ∧ k.run (σ.set d' av) = some σ' := by
  cases d with
  | none => exact .inl ⟨rfl, h⟩
  | some d' =>
    simp only [setD] at h
    obtain ⟨h1, h2⟩ := chk_run h
    simp only [Bool.and_eq_true, Nat.blt_eq, Bool.not_eq_true'] at h1
    exact .inr ⟨d', rfl, h1.1, h1.2, h2⟩

theorem put_getD {a : Act} {d r : Nat} {v : Value} (h : r ≠ d) : (a.put (some d) v).tmps.getD r undef = a.tmps.getD r undef := by
  simp only [Act.put, Array.getD_eq_getD_getElem?, Array.getElem?_setIfInBounds]
  rw [if_neg (by omega)]
theorem put_same {a : Act} {d : Nat} {v : Value} (h : d < a.tmps.size) : (a.put (some d) v).tmps.getD d undef = v := by
  simp [Act.put, h]
theorem Frm.refl (w : World) (X : List Nat) : Frm w w X := ⟨rfl, rfl, rfl, Nat.le_refl _, fun _ _ _ => rfl⟩
theorem Frm.trans {w w1 w2 : World} {X : List Nat} (h : Frm w w1 X) (k : Frm w1 w2 X) : Frm w w2 X :=
  ⟨k.os.trans h.os, k.tape.trans h.tape, k.output.trans h.output, Nat.le_trans h.size k.size, fun b hb hx => (k.block b (Nat.lt_of_lt_of_le hb h.size) hx).trans (h.block b hb hx)⟩
theorem Frm.mono {w w' : World} {X X' : List Nat} (h : Frm w w' X) (hx : ∀ b ∈ X, b ∈ X') : Frm w w' X' := ⟨h.os, h.tape, h.output, h.size, fun b hb hn => h.block b hb (fun hb' => hn (hx b hb'))⟩

/-- What floats may be forgotten. -/
theorem Sim.drop {c : Cx} {σ : St} {a : Act} {w : World} {X : List Nat} {F : Nat → List Nat} {G : Nat → Value} (h : Sim c σ a w X F G) : Sim c σ a w [] F G :=
  { h with xnodup := by simp, xdisj := by simp, xrng := by simp }
/-- Memory is changed where nobody's lies, the slots stay. -/
theorem Sim.world {c : Cx} {σ : St} {a : Act} {w w' : World} {X X' : List Nat} {F : Nat → List Nat} {G : Nat → Value} (h : Sim c σ a w X F G) (hf : Frm w w' X) (hn : X'.Nodup) (hsub : ∀ b ∈ X', b < w'.heap.size ∧ (b ∈ X ∨ w.heap.size ≤ b)) : Sim c σ a w' X' F G :=
  h.multi (fun _ => False) (fun _ _ => rfl) (fun _ h => h.elim) (fun _ _ => rfl) (fun _ _ => rfl) (fun b hb _ hx => hf.block b hb hx) (fun _ _ _ _ _ => rfl) hf.size hf.os hf.tape hf.output h.defers h.size (fun _ _ => rfl)
    (fun _ h => h.elim) (fun _ h => h.elim) (fun _ _ h => h.elim) hn (fun b hb => ⟨(hsub b hb).1, (hsub b hb).2.elim .inl (fun h => .inr (.inr h))⟩) (fun _ h => h.elim) (fun _ h => h.elim)

theorem Sim.put {c : Cx} {σ : St} {a : Act} {w w' : World} {X X' f : List Nat} {F : Nat → List Nat} {G : Nat → Value} (h : Sim c σ a w X F G) {d : Nat} (hd : d < c.E.nt) (hio : isIo d c.E.io = false) {av : AV} {v : Value} (hf : Frm w w' X)
    (hn : (f ++ X').Nodup) (hsub : ∀ b ∈ f ++ X', b < w'.heap.size ∧ (b ∈ X ∨ w.heap.size ≤ b)) (hv : SlotV c σ (val c a G) w' F G v f av) : Sim c (σ.set d av) (a.put (some d) v) w' X' (fun r => if r = d then f else F r) G := by
  have hnd := List.nodup_append.1 hn
  have hvo : ∀ r, ¬ r = d → val c (a.put (some d) v) G r = val c a G r := by
    intro r hr
    simp only [val]
    split
    · rw [put_getD hr]
    · rfl
  have hvd : val c (a.put (some d) v) G d = v := by
    simp only [val, if_pos hd]
    exact put_same (by rw [h.size]; exact hd)
  refine h.multi (fun r => r = d) (fun r hr => St.set_other _ _ _ _ hr) (fun r hr => by subst hr; simp) hvo (fun r hr => by simp [hr]) (fun b hb _ hx => hf.block b hb hx) (fun _ _ _ _ _ => rfl) hf.size hf.os hf.tape hf.output (by simpa [Act.put] using h.defers) (by simpa [Act.put] using h.size)
    (fun s hs => put_getD (by rintro rfl; rw [hio] at hs; cases hs)) (fun r hr => by simp [hr]; exact hnd.1) (fun r hr b hb => ?_) (fun r r' hr hr' hne => absurd (hr.trans hr'.symm) hne) hnd.2.1 (fun b hb => ?_) (fun r hr b hb hb' => ?_) (fun r hr => ?_)
  · simp [hr] at hb
    have := hsub b (by simp [hb])
    exact ⟨this.1, this.2.elim .inl (fun h => .inr (.inr h))⟩
  · have := hsub b (by simp [hb])
    exact ⟨this.1, this.2.elim .inl (fun h => .inr (.inr h))⟩
  · simp [hr] at hb
    exact hnd.2.2 b hb b hb' rfl
  · subst hr
    rw [hvd, St.set_same]
    rw [if_pos rfl]
    exact hv.stable (fun r' => r' = r) (fun r' hr' => St.set_other _ _ _ _ hr') (fun r' hr' => by subst hr'; simp) hvo (fun r' hr' => by simp [hr']) (fun _ _ _ _ => rfl) (fun _ _ => rfl) h.kip (Nat.le_refl _) (fun _ _ _ _ _ => rfl) (fun _ _ => rfl) (fun s hs _ => hvo s (by rintro rfl; rw [hio] at hs; cases hs))

/-- An operation's end: its slot is set (or it has none), what floats is forgotten. -/
theorem fin_set {c : Cx} {σ σ' : St} {a : Act} {w w' : World} {X f : List Nat} {F : Nat → List Nat} {G : Nat → Value} (h : Sim c σ a w X F G) {d : Option Nat} {av : AV} {v : Value} (hr : (setD c.E d av .done).run σ = some σ') (hf : Frm w w' X)
    (hn : f.Nodup) (hsub : ∀ b ∈ f, b < w'.heap.size ∧ (b ∈ X ∨ w.heap.size ≤ b)) (hv : SlotV c σ (val c a G) w' F G v f av) : ∃ F', Sim c σ' (a.put d v) w' [] F' G := by
  rcases setD_run hr with ⟨rfl, hr⟩ | ⟨d', rfl, hd, hio, hr⟩
  · obtain rfl := Option.some.inj (show some σ = some σ' from hr)
    exact ⟨F, h.world hf (by simp) (by simp)⟩
  · obtain rfl := Option.some.inj (show some (σ.set d' av) = some σ' from hr)
    exact ⟨_, h.put hd hio hf (X' := []) (by simpa using hn) (by simpa using hsub) hv⟩

/-- What an operation that is sound does. -/
def OpOK (c : Cx) (σ' : St) (Q : Exit → Act → World → Prop) (a : Act) (w : World) (o : Oper) : Prop := o.wp c.P a w (fun a' w' => ∃ F' G', Sim c σ' a' w' [] F' G') Q
theorem OpOK.value {c : Cx} {σ' : St} {Q : Exit → Act → World → Prop} {a : Act} {w w' : World} {o : Oper} {v : Value} (he : (execOp a.eval o).run c.P w = .ok (.value v) w') (h : ∃ F' G', Sim c σ' (a.put o.dst v) w' [] F' G') : OpOK c σ' Q a w o := by
  unfold OpOK Oper.wp
  rw [he]; exact h
theorem OpOK.skip {c : Cx} {σ' : St} {Q : Exit → Act → World → Prop} {a : Act} {w w' : World} {o : Oper} (he : (execOp a.eval o).run c.P w = .ok .skip w') (h : ∃ F' G', Sim c σ' (a.put o.dst undef) w' [] F' G') : OpOK c σ' Q a w o := by
  unfold OpOK Oper.wp
  rw [he]; exact h

mutual
theorem TR_plain_nil {w : World} {I : Bool → Nat → Prop} : ∀ (g : Tag) (t : Ty) (x : El t) (cs : List Value) (fp : List Nat), plainT t = true → TR w I g t x cs fp → fp = []
  | .imm q, t, x, cs, fp, hp, h => by simp only [TR] at h; exact h.2
  | .own, t, x, cs, fp, hp, h => by simp only [TR] at h; obtain ⟨d, hd⟩ := h; exact plain_nil d t x cs fp hp hd
  | .dead, t, x, cs, fp, _, h => by simp only [TR] at h; exact h.2
  | .st gs, .st s, x, cs, fp, hp, h => by simp only [TR] at h; exact TRL_plain_nil gs _ _ cs fp (plain_fields hp) h
  | .st gs, .int _, x, cs, fp, _, h | .st gs, .bool, x, cs, fp, _, h | .st gs, .str, x, cs, fp, _, h | .st gs, .sl _, x, cs, fp, _, h => by simp [TR] at h
  | .os g, .sl e, x, cs, fp, hp, h => by simp [plainT] at hp
  | .os g, .int _, x, cs, fp, _, h | .os g, .bool, x, cs, fp, _, h | .os g, .str, x, cs, fp, _, h | .os g, .st _, x, cs, fp, _, h => by simp [TR] at h
theorem TRL_plain_nil {w : World} {I : Bool → Nat → Prop} : ∀ (gs : List Tag) (ts : List Ty) (x : HL ts) (cs : List Value) (fp : List Nat), (∀ t ∈ ts, plainT t = true) → TRL w I gs ts x cs fp → fp = []
  | [], [], _, _, _, _, h => by simp only [TRL] at h; exact h.2
  | g :: gs, t :: ts, x, cs, fp, hp, h => by
    simp only [TRL] at h
    obtain ⟨c, c', f, f', rfl, rfl, h1, h2⟩ := h
    rw [TR_plain_nil g t _ _ _ (hp t (by simp)) h1, TRL_plain_nil gs ts _ _ _ (fun t ht => hp t (by simp [ht])) h2]; rfl
  | [], _ :: _, _, _, _, _, h | _ :: _, [], _, _, _, _, h => by simp [TRL] at h
end

/-- Those that own nothing by themselves: a copy says the same. -/
def AV.free : AV → Bool
  | .own _ _ _ => false
  | .box _ _ _ => false
  | .bcp _ _ => false
  | _ => true
theorem SlotV.free {c : Cx} {σ : St} {vl : Nat → Value} {w : World} {F : Nat → List Nat} {G : Nat → Value} {v : Value} {f f' : List Nat} {av : AV} (hf : av.free = true) (h : SlotV c σ vl w F G v f av) : SlotV c σ vl w F G v f' av := by
  cases av <;> first | (simp [AV.free] at hf; done) | exact h

theorem alias_own {c : Cx} {σ : St} {a : Act} {w : World} {X : List Nat} {F : Nat → List Nat} {G : Nat → Value} (h : Sim c σ a w X F G) {s n : Nat} {t : Ty} {x : El t} {g : Tag} (hs : (σ s).1 = .own t x g) (hn : n = (σ s).2) (hal : aliveT t g = true) (f : List Nat) :
    SlotV c σ (val c a G) w F G (val c a G s) f (.al t x s n [] true) := by
  have hsl := h.slot s
  rw [hs] at hsl
  obtain ⟨cs, h1, h2⟩ := hsl
  refine ⟨Nat.le_of_eq hn, fun _ => ⟨cs, t, x, g, none, cs, F s, h1, ?_, ⟨?_, ?_, ?_⟩, fun _ => ⟨rfl, none, ?_⟩⟩⟩
  · rw [hs]; exact .own h1 h2
  · exact TR_view (fun k b hb => .inl (h.I_ip k b hb)) _ _ _ _ _ hal (fun b hb => .inr hb) h2
  · intro q hq
    have : g = .imm q := by simpa [stepsOf, tagAt] using hq
    subst this
    simp only [TR] at h2
    exact h2.1
  · intro gk _ hk
    have hk' : gk = .dead := by simp only [stepsOf, List.map_nil, List.reverse_nil] at hk; cases t <;> simpa [killT] using hk.symm
    subst hk'
    exact ⟨F s, [], by simpa using h.nodup s, by simp, by cases g <;> exact h2, TR_dead (TR_len _ _ _ _ _ h2)⟩
  · cases t <;> exact ⟨rfl, rfl⟩
theorem alias_box {c : Cx} {σ : St} {a : Act} {w : World} {X : List Nat} {F : Nat → List Nat} {G : Nat → Value} (h : Sim c σ a w X F G) {s n : Nat} {t : Ty} {x : El t} {g : Tag} (hs : (σ s).1 = .box t x g) (hn : n = (σ s).2) (f : List Nat) :
    SlotV c σ (val c a G) w F G (val c a G s) f (.ptr t x s n []) := by
  have hsl := h.slot s
  rw [hs] at hsl
  obtain ⟨b, cs, f', h1, h2, h3, h4⟩ := hsl
  refine ⟨Nat.le_of_eq hn, fun _ => ⟨⟨b, 0, none⟩, cs, t, x, g, some ⟨b, 0, none⟩, cs, f', h1, ?_, rfl, by cases t <;> exact ⟨rfl, rfl⟩⟩⟩
  rw [hs, h4]; exact .box h1 h2 h3

theorem moveK_ok {c : Cx} (he : EnvOK c) {σ σ' : St} {a : Act} {w : World} {F : Nat → List Nat} {G : Nat → Value} (h : Sim c σ a w [] F G) {t : Option Ty} {o : Operand} {d : Option Nat} (hr : (moveK c.E t o d .done).run σ = some σ') :
    ∃ F', Sim c σ' (a.put d (a.eval o)) w [] F' G := by
  obtain ⟨av, s, n, ho, hr⟩ := rd_run he h hr
  have hsv := ho.sv
  have copy : ∀ (av : AV), SlotV c σ (val c a G) w F G (a.eval o) [] av → (setD c.E d av .done).run σ = some σ' → ∃ F', Sim c σ' (a.put d (a.eval o)) w [] F' G :=
    fun av hv hr => fin_set h hr (Frm.refl _ _) (f := []) (by simp) (by simp) hv
  cases av with
  | own u x g =>
    simp only at hr
    cases hp : plainT u with
    | true =>
      simp only [hp] at hr
      obtain ⟨cs, h1, h2⟩ := hsv
      have := TR_plain_nil _ _ _ _ _ hp h2
      rw [this] at h2
      exact copy (.own u x g) ⟨cs, h1, h2⟩ hr
    | false =>
      cases s with
      | none => simp only [hp] at hr; exact copy _ hsv hr
      | some s =>
        simp only [hp] at hr
        obtain ⟨hal, hr⟩ := chk_run hr
        obtain ⟨h1, h2, h3, _⟩ := ho.at_ s rfl
        refine copy _ ?_ hr
        rw [h3]
        exact alias_own h h1.symm h2 hal _
  | box u x g =>
    cases s with
    | none => simp [Mp.run] at hr
    | some s =>
      obtain ⟨h1, h2, h3, _⟩ := ho.at_ s rfl
      refine copy _ ?_ hr
      rw [h3]
      exact alias_box h h1.symm h2 _
  | bcp t s => simp [Mp.run] at hr
  | pcp t u s p rb m => exact copy _ (hsv.free rfl) hr
  | dead => exact copy _ (hsv.free rfl) hr
  | und => exact copy _ (hsv.free rfl) hr
  | vw u x q => exact copy _ (hsv.free rfl) hr
  | al u x r m up ex => exact copy _ (hsv.free rfl) hr
  | ptr u x r m up => exact copy _ (hsv.free rfl) hr
  | pvw u x q => exact copy _ (hsv.free rfl) hr
  | tup s k m => exact copy _ (hsv.free rfl) hr
  | clo as r Fn q => exact copy _ (hsv.free rfl) hr

theorem mkAV_ok {c : Cx} {σ : St} {vl : Nat → Value} {w : World} {F : Nat → List Nat} {G : Nat → Value} {t : Ty} {x : El t} {g : Tag} {cs : List Value} {f : List Nat} (h : TR w c.I g t x cs f) (ha : aliveT t g = true) : SlotV c σ vl w F G (mkV t cs) f (mkAV t x g) := by
  cases hp : plainT t with
  | true =>
    obtain ⟨rfl, hpv⟩ := TR_plain _ _ _ _ _ hp ha h
    have : mkAV t x g = .own t x .own := by unfold mkAV; rw [hp]
    rw [this]
    exact ⟨cs, rfl, hpv.TR _ _⟩
  | false =>
    unfold mkAV
    rw [hp]
    cases g with
    | imm q =>
      simp only [TR] at h
      cases q with
      | true => exact ⟨trivial, fun _ => ⟨h.1.choose, cs, rfl, h.1.choose_spec⟩⟩
      | false => exact ⟨trivial, fun _ => ⟨h.1.choose, cs, rfl, h.1.choose_spec⟩⟩
    | own => exact ⟨cs, rfl, h⟩
    | dead => exact ⟨cs, rfl, h⟩
    | st gs => exact ⟨cs, rfl, h⟩
    | os g => exact ⟨cs, rfl, h⟩

theorem assignK_ok {c : Cx} (he : EnvOK c) {σ σ' : St} {a : Act} {w : World} {F : Nat → List Nat} {G : Nat → Value} (h : Sim c σ a w [] F G) {t : Option Ty} {o : Operand} {d : Option Nat} (hr : (assignK c.E t o d .done).run σ = some σ') :
    ∃ F', Sim c σ' (a.put d (a.eval o)) w [] F' G := by
  obtain ⟨av, s, n, ho, hr⟩ := rd_run he h hr
  have hsv := ho.sv
  have copy : ∀ (av : AV), SlotV c σ (val c a G) w F G (a.eval o) [] av → (setD c.E d av .done).run σ = some σ' → ∃ F', Sim c σ' (a.put d (a.eval o)) w [] F' G :=
    fun av hv hr => fin_set h hr (Frm.refl _ _) (f := []) (by simp) (by simp) hv
  have taken : (takeK c.E t o fun t x g => setD c.E d (mkAV t x g) .done).run σ = some σ' → ∃ F', Sim c σ' (a.put d (a.eval o)) w [] F' G := by
    intro hr
    obtain ⟨u, x, g, σ1, F1, f, cs, hr, h1, hm, h2, h3, h4⟩ := takeK_run he h hr
    rw [h2]
    refine fin_set h1 hr (Frm.refl _ _) (f := f) ?_ ?_ (mkAV_ok h3 h4)
    · exact (List.nodup_append.1 h1.xnodup).1
    · exact fun b hb => ⟨(h1.xrng b (by simp [hb])).1, .inl (by simp [hb])⟩
  cases av with
  | own u x g => exact taken hr
  | al u x r m up ex => exact taken hr
  | box u x g =>
    cases s with
    | none => simp [Mp.run] at hr
    | some s =>
      simp only [Mp.run] at hr
      obtain ⟨h1, h2, h3, _⟩ := ho.at_ s rfl
      have k1 : Sim c (σ.set s .dead) a w (F s ++ []) (fun r => if r = s then [] else F r) G := h.upd s .dead (f' := []) (X' := F s ++ []) (by simpa using h.nodup s) (by simp) trivial
      refine fin_set k1 hr (Frm.refl _ _) (f := F s) (h.nodup s) (fun b hb => ⟨(h.rng s b hb).1, .inl (by simpa using hb)⟩) ?_
      exact hsv.mono h.kip (Mono.set _ _ _ _ _)
  | bcp t s => simp [Mp.run] at hr
  | pcp t u s p rb m => exact copy _ (hsv.free rfl) hr
  | dead => exact copy _ (hsv.free rfl) hr
  | und => exact copy _ (hsv.free rfl) hr
  | vw u x q => exact copy _ (hsv.free rfl) hr
  | ptr u x r m up => exact copy _ (hsv.free rfl) hr
  | pvw u x q => exact copy _ (hsv.free rfl) hr
  | tup s k m => exact copy _ (hsv.free rfl) hr
  | clo as r Fn q => exact copy _ (hsv.free rfl) hr
end Net

/- The types of the loaded program against the codes; zero values. -/
namespace Net
open Go
set_option linter.unusedVariables false

def zcS : SId → List Value
  | .span | .arc | .link => List.replicate 2 (.int .i64 0)
  | .site | .zone => List.replicate 3 (.int .i64 0)
  | .sat | .contact | .flow | .fault | .sent => List.replicate 4 (.int .i64 0)
  | .battery | .packet => List.replicate 6 (.int .i64 0)
  | .event => List.replicate 10 (.int .i64 0)
  | .sky => [.int .i64 0, .slice none 0 0, .slice none 0 0, .int .i64 0, .int .i64 0, .int .i64 0, .int .i64 0, .int .i64 0, .slice none 0 0, .int .i64 0]
  | .table | .handover => [.int .i64 0, .slice none 0 0, .slice none 0 0]
  | .piece => [.int .i64 0, .int .i64 0, .slice none 0 0, .slice none 0 0]
  | .prog => [.int .i64 0, .int .i64 0, .int .i64 0, .slice none 0 0]
  | .queue | .law => [.slice none 0 0]
  | .stream => [.int .i64 0, .int .i64 0, .slice none 0 0]
  | .cur => [.slice none 0 0, .int .i64 0, .int .i64 0]
  | .world => [.int .i64 0, .slice none 0 0, .slice none 0 0, .int .i64 0, .int .i64 0, .int .i64 0, .int .i64 0, .int .i64 0, .slice none 0 0, .int .i64 0] ++ [.int .i64 0, .int .i64 0, .int .i64 0, .slice none 0 0] ++ [.slice none 0 0] ++
      [.slice none 0 0, .slice none 0 0, .slice none 0 0, .slice none 0 0, .slice none 0 0, .slice none 0 0, .slice none 0 0, .int .i64 0, .int .i64 0, .slice none 0 0, .slice none 0 0]
def zc : Ty → List Value
  | .int k => [.int k 0]
  | .bool => [.bool false]
  | .str => [.string ByteArray.empty]
  | .sl _ => [.slice none 0 0]
  | .st s => zcS s
def zHL : (ts : List Ty) → HL ts
  | [] => ()
  | t :: ts => (zeroE t, zHL ts)
theorem zcS_eq (s : SId) : zcS s = (fieldsOf s).flatMap zc := by cases s <;> rfl
theorem toL_zero (s : SId) : toL s (zeroS s) = zHL (fieldsOf s) := by cases s <;> rfl
def rk : Ty → Nat
  | .st .world => 4 | .st .zone => 2 | .st .piece => 2 | .st .event => 2 | .st .sky => 1 | .st _ => 1
  | _ => 0
theorem rk_fields (s : SId) : ∀ t ∈ fieldsOf s, rk t < rk (.st s) := by cases s <;> simp [fieldsOf, rk]
theorem FL_zero {R : (t : Ty) → El t → List Value → List Nat → Prop} : ∀ (ts : List Ty), (∀ t ∈ ts, R t (zeroE t) (zc t) []) → FL R ts (zHL ts) (ts.flatMap zc) []
  | [], _ => ⟨rfl, rfl⟩
  | t :: ts, h => ⟨zc t, ts.flatMap zc, [], [], by simp, rfl, h t (by simp), FL_zero ts (fun u hu => h u (by simp [hu]))⟩
theorem zc_ok (w : World) : ∀ (d : Nat) (t : Ty), rk t < d → RO w d t (zeroE t) (zc t) []
  | 0, _, h => absurd h (by omega)
  | d + 1, .int k, _ => ⟨rfl, by unfold inR; cases k <;> decide, rfl⟩
  | d + 1, .bool, _ => ⟨rfl, rfl⟩
  | d + 1, .str, _ => ⟨rfl, by decide, rfl⟩
  | d + 1, .sl e, _ => .inl ⟨rfl, rfl, rfl⟩
  | d + 1, .st s, h => by
    show FL (RO w d) (fieldsOf s) (toL s (zeroS s)) (zcS s) []
    rw [toL_zero, zcS_eq]
    exact FL_zero _ (fun t ht => zc_ok w d t (by have := rk_fields s t ht; omega))
theorem zc_tr (w : World) (I : Bool → Nat → Prop) (t : Ty) : TR w I .own t (zeroE t) (zc t) [] := TR_of_own (zc_ok w (rk t + 1) t (by omega))
theorem zc_len (t : Ty) : (zc t).length = csz t := RO_len _ _ _ _ _ (zc_ok default (rk t + 1) t (by omega))
theorem zc_one (t : Ty) : ∀ v ∈ zc t, v.oneCell' = true := oneCells _ _ _ _ (RO_view (J := fun _ => True) _ _ _ _ _ (by simp) (zc_ok default (rk t + 1) t (by omega)))

/-- What the table says of a type. -/
structure TyAt (P : Program) (ty : Nat → Option Ty) (T : Nat) (t : Ty) : Prop where
  info : ∃ i, P.info? T = some i ∧ i.size = csz t ∧ i.bytes ≤ 1024 ∧ i.zero = some (mkV t (zc t))
  und : match t with
    | .int k => P.underlying T = some (.int k)
    | .bool => P.underlying T = some .bool
    | .str => P.underlying T = some .string
    | .sl e => ∃ Te, P.underlying T = some (.slice Te) ∧ ty Te = some e
    | .st s => ∃ fs : Array Field, P.underlying T = some (.struct fs) ∧ fs.size = (fieldsOf s).length ∧ ∀ i f, fs[i]? = some f → ∃ u, (fieldsOf s)[i]? = some u ∧ ty f.type = some u ∧ f.offset = offs (fieldsOf s) i ∧ f.name ≠ "_"
  eqg : plainT t = true → P.eqGuardType P.depth T = false ∧ P.stoodInHeld T = false
def TyOK (P : Program) (ty : Nat → Option Ty) : Prop := ∀ T t, ty T = some t → TyAt P ty T t

section
variable {P : Program} {ty : Nat → Option Ty} {T : Nat} {t : Ty}
theorem TyAt.sizeOf (h : TyAt P ty T t) (w : World) : (Go.sizeOf T).run P w = .ok (csz t) w := by
  obtain ⟨i, h1, h2, _⟩ := h.info
  simp [Go.sizeOf, typeInfo, h1, h2]
theorem TyAt.isAgg (h : TyAt P ty T t) (w : World) : (Go.isAgg T).run P w = .ok (match t with | .st _ => true | _ => false) w := by
  have hu := h.und
  cases t with
  | int k => simp [Go.isAgg, run_underlying hu]
  | bool => simp [Go.isAgg, run_underlying hu]
  | str => simp [Go.isAgg, run_underlying hu]
  | sl e => obtain ⟨Te, hu, _⟩ := hu; simp [Go.isAgg, run_underlying hu]
  | st s => obtain ⟨fs, hu, _⟩ := hu; simp [Go.isAgg, run_underlying hu]
theorem TyAt.zeroValue (h : TyAt P ty T t) (w : World) : (Go.zeroValue T).run P w = .ok (mkV t (zc t)) w := by
  obtain ⟨i, h1, _, _, h2⟩ := h.info
  simp [Go.zeroValue, typeInfo, h1, h2]
theorem TyAt.loadVar (h : TyAt P ty T t) {w : World} {a : Addr} {cs : List Value} (hl : locA w a cs) (hc : cs.length = csz t) : (Go.loadVar T a).run P w = .ok (mkV t cs) w := by
  have h1 := h.isAgg w
  have h2 := h.sizeOf w
  have h3 := run_loadCells_list (P := P) w a cs hl
  cases t with
  | st s =>
    simp only [Go.loadVar, Sem.run_bind, h1, Result.andThen_ok, if_true, h2]
    rw [hc] at h3
    simp [h3, mkV]
  | _ =>
    simp only [csz] at hc
    match cs, hc with
    | [v], _ =>
      have := hl 0 v (by simp)
      simp only [Addr.add, if_true] at this
      simp [Go.loadVar, Sem.run_bind, h1, Result.andThen_ok, Go.load, Sem.run, this, mkV]
end
theorem mkV_inj {t : Ty} {c d : List Value} (h : mkV t c = mkV t d) (hc : c.length = csz t) (hd : d.length = csz t) : c = d := by
  cases t with
  | st s => simpa [mkV] using h
  | _ =>
    match c, d, hc, hd with
    | [x], [y], _, _ => simpa [mkV] using h

theorem walkF_chain {tr : Ty} {xr : El tr} : ∀ (p : List Nat) (t : Ty) (x : El t) (up : Up) (u : Ty) (y : El u) (up' : Up), walkF t x p up = some (⟨u, y⟩, up') → Chain up t x tr xr → Chain up' u y tr xr ∧ stepsOf up' = stepsOf up ++ p.map .f
  | [], t, x, up, u, y, up', h, hc => by
    have h : some ((⟨t, x⟩ : (t : Ty) × El t), up) = some (⟨u, y⟩, up') := by cases t <;> exact h
    simp only [Option.some.injEq, Prod.mk.injEq, Sigma.mk.injEq] at h
    obtain ⟨⟨rfl, e⟩, rfl⟩ := h
    have e := eq_of_heq e
    subst e
    exact ⟨hc, by simp⟩
  | i :: p, .st s, x, up, u, y, up', h, hc => by
    simp only [walkF] at h
    cases hn : nthL (fieldsOf s) (toL s x) i with
    | none => simp [hn] at h
    | some z =>
      obtain ⟨v, z⟩ := z
      simp only [hn] at h
      obtain ⟨h1, h2⟩ := walkF_chain p v z _ u y up' h ⟨⟨v, z, hn, by cases v <;> rfl⟩, hc⟩
      exact ⟨h1, by rw [h2, stepsOf_cons]; simp⟩
  | i :: p, .int _, _, _, _, _, _, h, _ | i :: p, .bool, _, _, _, _, _, h, _ | i :: p, .str, _, _, _, _, _, h, _ | i :: p, .sl _, _, _, _, _, _, h, _ => by simp [walkF] at h


theorem offs_bound : ∀ (ts : List Ty) (i : Nat) (v : Ty), ts[i]? = some v → ((ts.take i).map csz).sum + csz v ≤ (ts.map csz).sum
  | [], i, v, h => by simp at h
  | t :: ts, 0, v, h => by
    simp only [List.getElem?_cons_zero, Option.some.injEq] at h
    subst h
    simp
  | t :: ts, i + 1, v, h => by
    have := offs_bound ts i v (by simpa using h)
    simp only [List.take_succ_cons, List.map_cons, List.sum_cons]
    omega
theorem addr_path {w : World} {S : Nat → Prop} : ∀ (p : List Nat) (t u : Ty) (o : Nat) (cs : List Value), addrTy t p = some (u, o) → cs.length = csz t → PathTo w S t none cs (p.map .f) none ((cs.drop o).take (csz u)) ∧ o + csz u ≤ csz t
  | [], t, u, o, cs, h, hl => by
    have h : some (t, 0) = some (u, o) := by cases t <;> exact h
    simp only [Option.some.injEq, Prod.mk.injEq] at h
    obtain ⟨rfl, rfl⟩ := h
    refine ⟨?_, by omega⟩
    rw [List.drop_zero, ← hl, List.take_length]
    cases t <;> exact ⟨rfl, rfl⟩
  | i :: p, .st s, u, o, cs, h, hl => by
    simp only [addrTy] at h
    cases hv : (fieldsOf s)[i]? with
    | none => simp [hv] at h
    | some v =>
      simp only [hv, Option.map_eq_some_iff] at h
      obtain ⟨⟨u', o2⟩, h1, h2⟩ := h
      simp only [Prod.mk.injEq] at h2
      obtain ⟨rfl, rfl⟩ := h2
      have hb := offs_bound _ _ _ hv
      rw [← cszS_eq] at hb
      have hb : ((List.take i (fieldsOf s)).map csz).sum + csz v ≤ csz (.st s) := hb
      obtain ⟨k1, k2⟩ := addr_path p v u' o2 ((cs.drop (((fieldsOf s).take i).map csz).sum).take (csz v)) h1 (by rw [List.length_take, List.length_drop]; omega)
      refine ⟨⟨v, hv, ?_⟩, by omega⟩
      have e : ((((cs.drop (((fieldsOf s).take i).map csz).sum).take (csz v)).drop o2).take (csz u')) = (cs.drop ((((fieldsOf s).take i).map csz).sum + o2)).take (csz u') := by
        rw [List.drop_take, List.take_take, List.drop_drop]
        congr 1
        omega
      rw [e] at k1
      exact k1
  | i :: p, .int _, _, _, _, h, _ | i :: p, .bool, _, _, _, h, _ | i :: p, .str, _, _, _, h, _ | i :: p, .sl _, _, _, _, h, _ => by simp [addrTy] at h
theorem addrTy_app : ∀ (p : List Nat) (t : Ty) (q : SId) (o i : Nat) (u : Ty) (o' : Nat), addrTy t p = some (.st q, o) → addrTy t (p ++ [i]) = some (u, o') → (fieldsOf q)[i]? = some u ∧ o' = o + offs (fieldsOf q) i
  | [], t, q, o, i, u, o', h, k => by
    have h : some (t, 0) = some (.st q, o) := by cases t <;> exact h
    simp only [Option.some.injEq, Prod.mk.injEq] at h
    obtain ⟨rfl, rfl⟩ := h
    simp only [List.nil_append, addrTy] at k
    cases hv : (fieldsOf q)[i]? with
    | none => simp [hv] at k
    | some v =>
      simp only [hv, Option.map_eq_some_iff] at k
      obtain ⟨⟨u', o2⟩, h1, h2⟩ := k
      have h1 : some (v, 0) = some (u', o2) := by cases v <;> exact h1
      simp only [Option.some.injEq, Prod.mk.injEq] at h1 h2
      obtain ⟨rfl, rfl⟩ := h1
      obtain ⟨rfl, rfl⟩ := h2
      exact ⟨rfl, by simp [offs]⟩
  | j :: p, .st s, q, o, i, u, o', h, k => by
    simp only [List.cons_append, addrTy] at h k
    cases hv : (fieldsOf s)[j]? with
    | none => simp [hv] at h
    | some v =>
      simp only [hv, Option.map_eq_some_iff] at h k
      obtain ⟨⟨u1, o1⟩, h1, h2⟩ := h
      obtain ⟨⟨u2, o2⟩, k1, k2⟩ := k
      simp only [Prod.mk.injEq] at h2 k2
      obtain ⟨rfl, rfl⟩ := h2
      obtain ⟨rfl, rfl⟩ := k2
      obtain ⟨m1, m2⟩ := addrTy_app p v q o1 i u2 o2 h1 k1
      exact ⟨m1, by omega⟩
  | i :: p, .int _, _, _, _, _, _, h, _ | i :: p, .bool, _, _, _, _, _, h, _ | i :: p, .str, _, _, _, _, _, h, _ | i :: p, .sl _, _, _, _, _, _, h, _ => by simp [addrTy] at h
end Net

/- Pointers: loads, fields, elements; variables made. -/
namespace Net
open Go
set_option linter.unusedVariables false

theorem isBox_loc {w : World} {b : Nat} {cs : List Value} (h : isBox w b cs) : locA w ⟨b, 0, none⟩ cs := by
  obtain ⟨et, h⟩ := h
  intro j v hj
  rw [add_mk]
  simp [World.cell?, h, hj]
theorem Root_loc {I : Bool → Nat → Prop} {w : World} {v : Value} {av : AV} {fp : List Nat} {tr : Ty} {xr : El tr} {gr : Tag} {A : Option Addr} {cs : List Value} {f : List Nat} (h : Root I w v av fp tr xr gr A cs f) : TR w I gr tr xr cs f ∧ ∀ a, A = some a → locA w a cs := by
  cases h with
  | own h1 h2 => exact ⟨h2, by simp⟩
  | box h1 h2 h3 => exact ⟨h3, fun a ha => by cases ha; exact isBox_loc h2⟩
theorem Root_nodup {I : Bool → Nat → Prop} {w : World} {v : Value} {av : AV} {fp : List Nat} {tr : Ty} {xr : El tr} {gr : Tag} {A : Option Addr} {cs : List Value} {f : List Nat} (h : Root I w v av fp tr xr gr A cs f) (hn : fp.Nodup) : f.Nodup := by
  cases h with
  | own h1 h2 => exact hn
  | box h1 h2 h3 => exact (List.nodup_cons.1 hn).2

theorem AlF_of_path {I : Bool → Nat → Prop} {w : World} {v : Value} {av : AV} {fp : List Nat} {tr : Ty} {xr : El tr} {gr : Tag} {A : Option Addr} {rc : List Value} {fr : List Nat} {S : Nat → Prop} {t : Ty} {x : El t} {up : Up} {A' : Option Addr} {cs : List Value}
    (h : Root I w v av fp tr xr gr A rc fr) (hn : fp.Nodup) (hI : ∀ k b, I k b → S b) (hS : ∀ b ∈ fr, S b) (hc : Chain up t x tr xr) (hp : PathTo w S tr A rc (stepsOf up) A' cs) (ha : aliveT t (tagAt gr (stepsOf up)) = true) :
    AlF I w t x cs S tr xr gr rc fr (stepsOf up) ∧ (∀ a, A' = some a → locA w a cs) ∧ cs.length = csz t ∧ ∃ f', (∀ b ∈ f', b ∈ fr) ∧ TR w I (tagAt gr (stepsOf up)) t x cs f' := by
  obtain ⟨h1, h2⟩ := Root_loc h
  obtain ⟨f', h3, h4, h5⟩ := lens_get _ _ _ _ _ _ _ _ _ _ _ h1 hc.get hp h2 ha
  refine ⟨⟨?_, ?_, ?_⟩, h5, TR_len _ _ _ _ _ h4, f', h3, h4⟩
  · exact TR_view hI _ _ _ _ _ ha (fun b hb => hS b (h3 b hb)) h4
  · intro q hq
    rw [hq] at h4
    simp only [TR] at h4
    exact h4.1
  · intro gk _ hk
    obtain ⟨fa, pre, post, e, h6, h7⟩ := lens_kill _ _ _ _ _ _ _ _ _ _ _ _ h1 hc.get hp hk
    have hnf := Root_nodup h hn
    rw [e] at hnf
    refine ⟨fa, pre ++ post, ?_, ?_, h6, h7⟩
    · have : (fa ++ (pre ++ post)).Perm (pre ++ (fa ++ post)) := by
        rw [← List.append_assoc, ← List.append_assoc]
        exact List.Perm.append_right _ List.perm_append_comm
      exact this.nodup_iff.2 hnf
    · intro b hb
      rw [e]
      simp only [List.mem_append] at hb ⊢
      rcases hb with hb | hb | hb
      · exact .inr (.inl hb)
      · exact .inl hb
      · exact .inr (.inr hb)

theorem readPtr_run {c : Cx} (he : EnvOK c) {σ σ' : St} {a : Act} {w : World} {X : List Nat} {F : Nat → List Nat} {G : Nat → Value} (h : Sim c σ a w X F G) {o : Operand} {k : (t : Ty) → El t → AV → Mp} (hr : (readPtr c.E o k).run σ = some σ') :
    ∃ t x av ad cs, (k t x av).run σ = some σ' ∧ a.eval o = .pointer (some ad) ∧ locA w ad cs ∧ cs.length = csz t ∧ SlotV c σ (val c a G) w F G (mkV t cs) [] av ∧ (plainT t = true → PV t x cs) := by
  obtain ⟨av, s, n, ho, hr⟩ := rd_run he h hr
  have hsv := ho.sv
  cases av with
  | box u x g =>
    simp only at hr
    obtain ⟨hal, hr⟩ := chk_run hr
    cases s with
    | none => simp [Mp.run] at hr
    | some s =>
      obtain ⟨h1, h2, h3, _⟩ := ho.at_ s rfl
      obtain ⟨b, cs, f', k1, k2, k3, k4⟩ := hsv
      have k4 : F s = b :: f' := k4
      have hroot : Root c.I w (val c a G s) (σ s).1 (F s) u x g (some ⟨b, 0, none⟩) cs f' := by
        rw [← h1, k4]; exact .box (h3 ▸ k1) k2 k3
      have hch : Chain [] u x u x := rfl
      have hpt : PathTo w (fun q => c.Ip q ∨ q ∈ F s) u (some ⟨b, 0, none⟩) cs (stepsOf []) (some ⟨b, 0, none⟩) cs := by cases u <;> exact ⟨rfl, rfl⟩
      have htag : tagAt g (stepsOf []) = g := by cases g <;> rfl
      obtain ⟨m1, m2, m3, f2, m4, m5⟩ := AlF_of_path hroot (h.nodup s) (fun k b hb => .inl (h.I_ip k b hb)) (fun b hb => .inr (by rw [k4]; simp [hb])) hch hpt (by rw [htag]; exact hal)
      refine ⟨u, x, _, ⟨b, 0, none⟩, cs, hr, k1, isBox_loc k2, m3, ⟨Nat.le_of_eq h2, fun _ => ⟨cs, u, x, g, _, cs, f', rfl, hroot, m1, fun _ => ⟨hch, _, hpt⟩⟩⟩, fun hp => (TR_plain _ _ _ _ _ hp hal k3).2⟩
  | ptr u x r m up =>
    simp only [Mp.run] at hr
    obtain ⟨hm, hr⟩ := chk_run hr
    have hm := Nat.eq_of_beq_eq_true hm
    obtain ⟨hp, hl⟩ := hsv
    obtain ⟨pa, cs, tr, xr, gr, A, rc, fr, k1, k2, k3, k4⟩ := hl hm
    have main : ∀ gr', gr' = gr → (chk (aliveT u (tagAt gr' (stepsOf up))) (k u x (.al u x r m up true))).run σ = some σ' →
        ∃ t x av ad cs, (k t x av).run σ = some σ' ∧ a.eval o = .pointer (some ad) ∧ locA w ad cs ∧ cs.length = csz t ∧ SlotV c σ (val c a G) w F G (mkV t cs) [] av ∧ (plainT t = true → PV t x cs) := by
      rintro gr' rfl hr
      obtain ⟨hal, hr⟩ := chk_run hr
      obtain ⟨m1, m2, m3, f2, m4, m5⟩ := AlF_of_path k2 (h.nodup r) (fun k b hb => .inl (h.I_ip k b hb)) (fun b hb => .inr (Root_sub k2 b hb)) k3 k4 hal
      exact ⟨u, x, _, _, cs, hr, k1, m2 _ rfl, m3, ⟨hp, fun _ => ⟨cs, tr, xr, gr', A, rc, fr, rfl, k2, m1, fun _ => ⟨k3, _, k4⟩⟩⟩, fun hpl => (TR_plain _ _ _ _ _ hpl hal m5).2⟩
    generalize hav : (σ r).1 = avr at hr
    have k2' := k2
    rw [hav] at k2'
    obtain ⟨Fr, hFr⟩ : ∃ Fr, Fr = F r := ⟨_, rfl⟩
    rw [← hFr] at k2'
    cases k2' with
    | own _ _ => exact main _ rfl hr
    | box _ _ _ => exact main _ rfl hr
  | pvw u x q =>
    obtain ⟨hp, hl⟩ := hsv
    have fin : ∀ q, srcPast σ q → srcLive σ q → (∃ d ad cs, a.eval o = .pointer (some ad) ∧ locA w ad cs ∧ srcJ c F q ad.block ∧ RI w (srcJ c F q) d u x cs) → (k u x (.vw u x q)).run σ = some σ' →
        ∃ t x av ad cs, (k t x av).run σ = some σ' ∧ a.eval o = .pointer (some ad) ∧ locA w ad cs ∧ cs.length = csz t ∧ SlotV c σ (val c a G) w F G (mkV t cs) [] av ∧ (plainT t = true → PV t x cs) := by
      rintro q h1 h2 ⟨d, ad, cs, h3, h4, _, h5⟩ hr
      exact ⟨u, x, _, ad, cs, hr, h3, h4, RI_len _ _ _ _ h5, ⟨h1, fun _ => ⟨d, cs, rfl, h5⟩⟩, fun hpl => PV.of_RI hpl h5⟩
    cases q with
    | ip => exact fin .ip trivial trivial (hl trivial) hr
    | k => exact fin .k trivial trivial (hl trivial) hr
    | slot r m =>
      simp only [Mp.run] at hr
      obtain ⟨hm, hr⟩ := chk_run hr
      have hm := Nat.eq_of_beq_eq_true hm
      exact fin (.slot r m) hp hm (hl hm) hr
  | bcp t s =>
    obtain ⟨_, hlt, b, cs, k1, k2, k3, k4, _⟩ := hsv
    simp only [Mp.run] at hr
    have hsl := h.slot s
    rcases hst : σ s with ⟨avs, n⟩
    rw [hst] at hr hsl
    cases avs with
    | own u x g =>
      simp only at hr
      obtain ⟨hch, hr2⟩ := chk_run hr
      clear hr
      simp only [Bool.and_eq_true, decide_eq_true_eq] at hch
      obtain ⟨rfl, hal⟩ := hch
      obtain ⟨cs', m1, m2⟩ := hsl
      rw [m1] at k3
      have := mkV_inj k3 (TR_len _ _ _ _ _ m2) k4
      subst this
      have hA := alias_own h (s := s) (n := n) (t := u) (x := x) (g := g) (by rw [hst]) (by rw [hst]) hal []
      rw [m1] at hA
      exact ⟨u, x, _, ⟨b, 0, none⟩, cs', hr2, k1, isBox_loc k2, k4, hA, fun hp => (TR_plain _ _ _ _ _ hp hal m2).2⟩
    | _ => simp [Mp.run] at hr
  | pcp t u s p rb m =>
    simp only [Mp.run] at hr
    obtain ⟨hm, hr1⟩ := chk_run hr
    clear hr
    simp only [Mp.run] at hr1
    have hm := Nat.eq_of_beq_eq_true hm
    obtain ⟨_, hl⟩ := hsv
    obtain ⟨_, hlt, b, off, cs, k1, ka, k2, k3, k4, _⟩ := hl hm
    have hsl := h.slot s
    rcases hst : σ s with ⟨avs, n⟩
    rw [hst] at hr1 hsl
    cases avs with
    | own t' x g =>
      simp only at hr1
      obtain ⟨hch, hr2⟩ := chk_run hr1
      clear hr1
      have hch := of_decide_eq_true hch
      subst hch
      cases hw : walkF t' x p [] with
      | none => simp [hw, Mp.run] at hr2
      | some z =>
        obtain ⟨⟨u', y⟩, up⟩ := z
        simp only [hw] at hr2
        obtain ⟨hch, hr3⟩ := chk_run hr2
        clear hr2
        simp only [Bool.and_eq_true, decide_eq_true_eq] at hch
        obtain ⟨rfl, hal⟩ := hch
        obtain ⟨cs', m1, m2⟩ := hsl
        rw [m1] at k3
        have := mkV_inj k3 (TR_len _ _ _ _ _ m2) k4
        subst this
        obtain ⟨hc, hst2⟩ := walkF_chain p t' x [] u' y up hw (by rfl)
        have hst2 : stepsOf up = p.map .f := by rw [hst2]; rfl
        obtain ⟨hp, hb⟩ := addr_path (w := w) (S := fun q => c.Ip q ∨ q ∈ F s) p t' u' off cs' ka k4
        rw [← hst2] at hp
        have hroot : Root c.I w (val c a G s) (σ s).1 (F s) t' x g none cs' (F s) := by rw [hst]; exact .own m1 m2
        obtain ⟨q1, _, q3, f2, _, q5⟩ := AlF_of_path hroot (h.nodup s) (fun k b hb => .inl (h.I_ip k b hb)) (fun b hb => .inr hb) hc hp hal
        refine ⟨u', y, _, ⟨b, off, none⟩, _, hr3, k1, ?_, q3, ⟨by rw [hst]; exact Nat.le_refl _, fun _ => ⟨_, t', x, g, none, cs', F s, rfl, hroot, q1, fun _ => ⟨hc, _, hp⟩⟩⟩, fun hpl => (TR_plain _ _ _ _ _ hpl hal q5).2⟩
        have := locA_take (csz u') (locA_drop off (isBox_loc k2))
        rw [add_mk, Nat.zero_add] at this
        exact this
    | _ => simp [Mp.run] at hr1
  | _ => simp [Mp.run] at hr

theorem tyIs_eq {o : Option Ty} {t : Ty} (h : tyIs o t = true) : o = some t := by simpa [tyIs] using h

theorem fin_read {c : Cx} {σ σ' : St} {a : Act} {w : World} {X : List Nat} {F : Nat → List Nat} {G : Nat → Value} (h : Sim c σ a w X F G) {d : Option Nat} {av : AV} {v : Value} (hr : (setD c.E d av .done).run σ = some σ') (hv : SlotV c σ (val c a G) w F G v [] av) : ∃ F' G', Sim c σ' (a.put d v) w [] F' G' := by
  obtain ⟨F', h'⟩ := fin_set h hr (Frm.refl _ _) (f := []) (by simp) (by simp) hv
  exact ⟨F', G, h'⟩

theorem loadK_ok {c : Cx} (he : EnvOK c) (ht : TyOK c.P c.E.ty) {σ σ' : St} {a : Act} {w : World} {F : Nat → List Nat} {G : Nat → Value} (h : Sim c σ a w [] F G) {Q : Exit → Act → World → Prop} {o : Oper} {T : TypeId} {x : Operand} (ho : o.op = .load T x)
    (hr : (loadK c.E (c.E.ty T) x o.dst .done).run σ = some σ') : OpOK c σ' Q a w o := by
  obtain ⟨t, y, av, ad, cs, hr, h1, h2, h3, h4, h5⟩ := readPtr_run he h hr
  obtain ⟨hty, hr⟩ := chk_run hr
  have hty := ht _ _ (tyIs_eq hty)
  refine OpOK.value (v := mkV t cs) (w' := w) ?_ ?_
  · have hl := hty.loadVar h2 h3
    simp [execOp, ho, Instr.loadAt, Instr.sureAddr, h1, hl]
  · cases hp : plainT t with
    | true =>
      simp only [hp] at hr
      exact fin_read h hr ⟨cs, rfl, (h5 hp).TR _ _⟩
    | false =>
      simp only [hp] at hr
      exact fin_read h hr h4
end Net

/- Addresses of fields and of elements. -/
namespace Net
open Go
set_option linter.unusedVariables false

theorem csz_pos (t : Ty) : 0 < csz t := by
  cases t with
  | st s => cases s <;> decide
  | _ => exact Nat.one_pos

section
variable {P : Program} {ty : Nat → Option Ty} {T : Nat}
theorem fieldAt_run {s : SId} {i : Nat} {u : Ty} (hT : TyOK P ty) (hty : TyAt P ty T (.st s)) (hu : (fieldsOf s)[i]? = some u) (a : Addr) (w : World) : (Instr.fieldAt T (.pointer (some a)) i).run P w = .ok (.pointer (some (a.add (offs (fieldsOf s) i)))) w := by
  obtain ⟨fs, h1, h2, h3⟩ := hty.und
  have hi : i < fs.size := by rw [h2]; exact (List.getElem?_eq_some_iff.1 hu).1
  obtain ⟨u', h4, h5, h6, _⟩ := h3 i fs[i] (by simp [hi])
  rw [hu] at h4
  obtain rfl := Option.some.inj h4
  have h7 := (hT _ _ h5).sizeOf (P := P) w
  have h8 : csz u ≠ 0 := Nat.pos_iff_ne_zero.1 (csz_pos u)
  simp only [Instr.fieldAt, Sem.run_bind, run_underlying h1, Result.andThen_ok, Array.getElem?_eq_getElem hi, Instr.sureAddr, Sem.run_pure, fieldPlace, h7, if_neg h8, h6]
theorem indexAt_run {e : Ty} (hT : TyOK P ty) (hty : TyAt P ty T (.sl e)) (a : Addr) (len cap : Nat) (k : IntKind) (i : Int) (h : 0 ≤ i ∧ i < len) (w : World) :
    (Instr.indexAt T (.slice (some a) len cap) (.int k i)).run P w = .ok (.pointer (some (a.add (i.toNat * csz e)))) w := by
  obtain ⟨Te, h1, h2⟩ := hty.und
  have h7 := (hT _ _ h2).sizeOf (P := P) w
  simp [Instr.indexAt, Sem.run_bind, run_underlying h1, asIntOf, h, h7]
end

theorem rdI_some {α : Type} {xs : List α} {i : Int} {y : α} (h : rdI xs i = some y) : 0 ≤ i ∧ i < xs.length ∧ xs[i.toNat]? = some y := by
  unfold rdI at h
  split at h
  · rename_i h0
    have := (List.getElem?_eq_some_iff.1 h).1
    exact ⟨h0, by omega, h⟩
  · cases h

theorem RI_field {w : World} {J : Nat → Prop} {d : Nat} {s : SId} {x : Str s} {cs : List Value} (h : RI w J d (.st s) x cs) {i : Nat} {u : Ty} {y : El u} (hn : nthL (fieldsOf s) (toL s x) i = some ⟨u, y⟩) :
    (fieldsOf s)[i]? = some u ∧ ∃ d, RI w J d u y ((cs.drop (offs (fieldsOf s) i)).take (csz u)) := by
  have h1 : TR w (fun _ => J) (.imm false) (.st s) x cs [] := TR_imm h
  obtain ⟨gi, pre, c, post, fpre, f, fpost, h2, h3, rfl, h5, h6, h7, _⟩ := TR_field h1 hn
  have h8 : gi = .imm false := by simp only [splitT, List.getElem?_replicate] at h2; split at h2 <;> simp_all
  subst h8
  have hl := TR_len _ _ _ _ _ h7
  simp only [TR] at h7
  refine ⟨h3, ?_⟩
  rw [← h6, List.drop_left, ← hl, List.take_left]
  exact h7.1
theorem locA_sub {w : World} {a : Addr} {cs : List Value} (h : locA w a cs) (o n : Nat) : locA w (a.add o) ((cs.drop o).take n) := locA_take n (locA_drop o h)

theorem RI_elem {w : World} {J : Nat → Prop} {d : Nat} {e : Ty} {xs : List (El e)} {cs : List Value} (h : RI w J d (.sl e) xs cs) {n : Nat} {y : El e} (hn : xs[n]? = some y) :
    ∃ a cap c d', cs = [.slice (some a) xs.length cap] ∧ J a.block ∧ locA w (a.add (n * csz e)) c ∧ c.length = csz e ∧ RI w J d' e y c := by
  cases d with
  | zero => exact h.elim
  | succ d =>
    rcases h with ⟨_, rfl⟩ | ⟨a, cap, h1, h2, h3, h4, h5⟩
    · simp at hn
    · obtain ⟨c, h6, h7, h8⟩ := h5 n y hn
      exact ⟨a, cap, c, d, h1, h2 (pos_of hn), h7, h6, h8⟩

theorem fin_ptr {c : Cx} {σ σ' : St} {a : Act} {w : World} {X : List Nat} {F : Nat → List Nat} {G : Nat → Value} (h : Sim c σ a w X F G) {Q : Exit → Act → World → Prop} {o : Oper} {v : Value} {av : AV} (he : (execOp a.eval o).run c.P w = .ok (.value v) w)
    (hr : (setD c.E o.dst av .done).run σ = some σ') (hv : SlotV c σ (val c a G) w F G v [] av) : OpOK c σ' Q a w o := OpOK.value he (fin_read h hr hv)

theorem fieldAddrK_ok {c : Cx} (he : EnvOK c) (ht : TyOK c.P c.E.ty) {σ σ' : St} {a : Act} {w : World} {F : Nat → List Nat} {G : Nat → Value} (h : Sim c σ a w [] F G) {Q : Exit → Act → World → Prop} {o : Oper} {T : TypeId} {x : Operand} {i : Nat} (ho : o.op = .fieldAddr T x i)
    (hr : (fieldAddrK c.E (c.E.ty T) x i o.dst .done).run σ = some σ') : OpOK c σ' Q a w o := by
  obtain ⟨av, s, n, hop, hr⟩ := rd_run he h hr
  have hsv := hop.sv
  have main : ∀ (q : SId) (ad : Addr) (u : Ty), (fieldsOf q)[i]? = some u → a.eval x = .pointer (some ad) → c.E.ty T = some (.st q) → (execOp a.eval o).run c.P w = .ok (.value (.pointer (some (ad.add (offs (fieldsOf q) i))))) w := by
    intro q ad u hu h1 h2
    have h3 := fieldAt_run ht (ht _ _ h2) hu ad w
    simp [execOp, ho, h1, h3]
  cases av with
  | box t y g =>
    cases t with
    | st q =>
      simp only at hr
      obtain ⟨hty, hr⟩ := chk_run hr
      cases s with
      | none => simp [Mp.run] at hr
      | some s =>
        cases hn : nthL (fieldsOf q) (toL q y) i with
        | none => simp [hn, Mp.run] at hr
        | some z =>
          obtain ⟨u, z⟩ := z
          simp only [hn] at hr
          obtain ⟨h1, h2, h3, _⟩ := hop.at_ s rfl
          obtain ⟨b, cs, f', k1, k2, k3, k4⟩ := hsv
          have k4 : F s = b :: f' := k4
          have hu := (nthL_lt _ _ _ _ hn).2
          refine fin_ptr h (main q ⟨b, 0, none⟩ u hu k1 (tyIs_eq hty)) hr ⟨Nat.le_of_eq h2, fun _ => ⟨_, (cs.drop (offs (fieldsOf q) i)).take (csz u), .st q, y, g, some ⟨b, 0, none⟩, cs, f', rfl, ?_, ⟨⟨u, z, hn, rfl⟩, rfl⟩, ⟨u, hu, ?_⟩⟩⟩
          · rw [← h1, k4]; exact .box (h3 ▸ k1) k2 k3
          · cases u <;> exact ⟨rfl, rfl⟩
    | _ => simp [Mp.run] at hr
  | ptr t y r m up =>
    cases t with
    | st q =>
      simp only [Mp.run] at hr
      obtain ⟨hty, hr⟩ := chk_run hr
      simp only [Bool.and_eq_true] at hty
      have hm := Nat.eq_of_beq_eq_true hty.1
      cases hn : nthL (fieldsOf q) (toL q y) i with
      | none => simp [hn, Mp.run] at hr
      | some z =>
        obtain ⟨u, z⟩ := z
        simp only [hn] at hr
        obtain ⟨hp, hl⟩ := hsv
        have hu := (nthL_lt _ _ _ _ hn).2
        obtain ⟨ad, cs, tr, xr, gr, A, rc, fr, k1, k2, k3, k4⟩ := hl hm
        refine fin_ptr h (main q ad u hu k1 (tyIs_eq hty.2)) hr ⟨hp, fun _ => ⟨_, (cs.drop (offs (fieldsOf q) i)).take (csz u), tr, xr, gr, A, rc, fr, rfl, k2, ⟨⟨u, z, hn, rfl⟩, k3⟩, ?_⟩⟩
        rw [stepsOf_cons]
        refine PathTo_app _ _ _ _ _ _ _ _ _ _ _ _ k3.get k4 ⟨u, hu, ?_⟩
        cases u <;> exact ⟨rfl, rfl⟩
    | _ => simp [Mp.run] at hr
  | pvw t y q =>
    cases t with
    | st s' =>
      obtain ⟨hp, hl⟩ := hsv
      have fin : srcLive σ q → tyIs (c.E.ty T) (.st s') = true → (match nthL (fieldsOf s') (toL s' y) i with | some ⟨u, z⟩ => setD c.E o.dst (.pvw u z q) .done | none => .fail).run σ = some σ' → OpOK c σ' Q a w o := by
        intro hlive hty hr
        cases hn : nthL (fieldsOf s') (toL s' y) i with
        | none => simp [hn, Mp.run] at hr
        | some z =>
          obtain ⟨u, z⟩ := z
          simp only [hn] at hr
          obtain ⟨d, ad, cs, k1, k2, k3, k4⟩ := hl hlive
          obtain ⟨hu, d', k5⟩ := RI_field k4 hn
          exact fin_ptr h (main s' ad u hu k1 (tyIs_eq hty)) hr ⟨hp, fun _ => ⟨d', _, _, rfl, locA_sub k2 _ _, by rw [add_block]; exact k3, k5⟩⟩
      cases q with
      | slot r m =>
        simp only [Mp.run] at hr
        obtain ⟨hty, hr⟩ := chk_run hr
        simp only [Bool.and_eq_true] at hty
        exact fin (Nat.eq_of_beq_eq_true hty.1) hty.2 hr
      | ip =>
        obtain ⟨hty, hr⟩ := chk_run hr
        exact fin trivial hty hr
      | k =>
        obtain ⟨hty, hr⟩ := chk_run hr
        exact fin trivial hty hr
    | _ => simp [Mp.run] at hr
  | bcp t r =>
    cases t with
    | st q =>
      simp only at hr
      cases s with
      | none => simp [Mp.run] at hr
      | some rb =>
        cases hu : (fieldsOf q)[i]? with
        | none => simp [hu, Mp.run] at hr
        | some u =>
          simp only [hu] at hr
          obtain ⟨hty, hr2⟩ := chk_run hr
          clear hr
          obtain ⟨h1, h2, h3, _⟩ := hop.at_ rb rfl
          obtain ⟨e1, e2, b, cs, k1, k2, k3, k4, k5⟩ := hsv
          have k5 : F rb = [b] := k5
          refine fin_ptr h (main q ⟨b, 0, none⟩ u hu k1 (tyIs_eq hty)) hr2 ⟨Nat.le_of_eq h2, fun _ => ⟨e1, e2, b, _, cs, by rw [add_mk], ?_, k2, k3, k4, by rw [k5]; simp⟩⟩
          have : addrTy u [] = some (u, 0) := by cases u <;> rfl
          simp [addrTy, hu, offs]
    | _ => simp [Mp.run] at hr
  | pcp t u0 r p rb m =>
    cases u0 with
    | st q =>
      simp only [Mp.run] at hr
      obtain ⟨hty, hr2⟩ := chk_run hr
      clear hr
      simp only [Bool.and_eq_true] at hty
      have hm := Nat.eq_of_beq_eq_true hty.1
      cases ha : addrTy t (p ++ [i]) with
      | none => simp [ha, Mp.run] at hr2
      | some z =>
        obtain ⟨u, o'⟩ := z
        simp only [ha] at hr2
        obtain ⟨hp, hl⟩ := hsv
        obtain ⟨e1, e2, b, off, cs, k1, k2, k3, k4, k5, k6⟩ := hl hm
        obtain ⟨hu, rfl⟩ := addrTy_app p t q off i u o' k2 ha
        exact fin_ptr h (main q ⟨b, off, none⟩ u hu k1 (tyIs_eq hty.2)) hr2 ⟨hp, fun _ => ⟨e1, e2, b, _, cs, by rw [add_mk], ha, k3, k4, k5, k6⟩⟩
    | _ => simp [Mp.run] at hr
  | _ => simp [Mp.run] at hr

/-- what the pointer to an element of a slice is -/
theorem elem_ptr {c : Cx} {σ : St} {a : Act} {w : World} {X : List Nat} {F : Nat → List Nat} {G : Nat → Value} (h : Sim c σ a w X F G) {r m : Nat} {e : Ty} {xs : List (El e)} {up : Up} {tr : Ty} {xr : El tr} {gr : Tag} {A A' : Option Addr} {rc cs : List Value} {frn : List Nat} {n : Nat} {y : El e} {v : Value}
    (hm : m = (σ r).2) (hroot : Root c.I w v (σ r).1 (F r) tr xr gr A rc frn) (hv : v = val c a G r) (hc : Chain up (.sl e) xs tr xr) (hp : PathTo w (fun b => c.Ip b ∨ b ∈ F r) tr A rc (stepsOf up) A' cs) (hview : ∃ d, RI w (fun b => c.Ip b ∨ b ∈ F r) d (.sl e) xs cs) (hn : xs[n]? = some y) :
    ∃ ad cap, cs = [.slice (some ad) xs.length cap] ∧ SlotV c σ (val c a G) w F G (.pointer (some (ad.add (n * csz e)))) [] (.ptr e y r m ((⟨.sl e, xs⟩, .ix n) :: up)) := by
  obtain ⟨d, hd⟩ := hview
  obtain ⟨ad, cap, cy, d', h1, h2, h3, h4, h5⟩ := RI_elem hd hn
  subst hv
  refine ⟨ad, cap, h1, Nat.le_of_eq hm, fun _ => ⟨_, cy, tr, xr, gr, A, rc, frn, rfl, hroot, ⟨⟨y, hn, rfl⟩, hc⟩, ?_⟩⟩
  rw [stepsOf_cons]
  refine PathTo_app _ _ _ _ _ _ _ _ _ _ _ _ hc.get hp ⟨ad, _, cap, cy, h1, (List.getElem?_eq_some_iff.1 hn).1, h2, h3, h4, ?_⟩
  cases e <;> exact ⟨rfl, rfl⟩

theorem indexAddrK_ok {c : Cx} (he : EnvOK c) (ht : TyOK c.P c.E.ty) {σ σ' : St} {a : Act} {w : World} {F : Nat → List Nat} {G : Nat → Value} (h : Sim c σ a w [] F G) {Q : Exit → Act → World → Prop} {o : Oper} {T : TypeId} {x ix : Operand} (ho : o.op = .indexAddr T x ix)
    (hr : (indexAddrK c.E (c.E.ty T) x ix o.dst .done).run σ = some σ') : OpOK c σ' Q a w o := by
  obtain ⟨k, i, hr, hi, _⟩ := intK_run he h hr
  obtain ⟨av, s, n, hop, hr⟩ := rd_run he h hr
  have hsv := hop.sv
  have main : ∀ (e : Ty) (ad : Addr) (len cap : Nat), a.eval x = .slice (some ad) len cap → c.E.ty T = some (.sl e) → 0 ≤ i ∧ i < len → (execOp a.eval o).run c.P w = .ok (.value (.pointer (some (ad.add (i.toNat * csz e))))) w := by
    intro e ad len cap h1 h2 h3
    have h4 := indexAt_run ht (ht _ _ h2) ad len cap k i h3 w
    simp [execOp, ho, h1, hi, h4]
  have view : ∀ (e : Ty) (xs : List (El e)) (y : El e) (q : VS), c.E.ty T = some (.sl e) → rdI xs i = some y → srcPast σ q → (∃ d cs, a.eval x = mkV (.sl e) cs ∧ RI w (srcJ c F q) d (.sl e) xs cs) → (setD c.E o.dst (.pvw e y q) .done).run σ = some σ' → OpOK c σ' Q a w o := by
    rintro e xs y q hty hrd hq ⟨d, cs, h1, h2⟩ hr
    obtain ⟨h3, h4, h5⟩ := rdI_some hrd
    obtain ⟨ad, cap, cy, d', rfl, k2, k3, k4, k5⟩ := RI_elem h2 h5
    exact fin_ptr h (main e ad _ cap h1 hty ⟨h3, h4⟩) hr ⟨hq, fun _ => ⟨d', _, cy, rfl, k3, by rw [add_block]; exact k2, k5⟩⟩
  cases av with
  | own t xs g =>
    cases t with
    | sl e =>
      cases s with
      | none => simp [Mp.run] at hr
      | some s =>
        obtain ⟨hc, hr⟩ := chk_run hr
        simp only [Bool.and_eq_true] at hc
        obtain ⟨y, hrd, hr⟩ := bnd_run hr
        obtain ⟨h3, h4, h5⟩ := rdI_some hrd
        obtain ⟨e1, e2, e3, _⟩ := hop.at_ s rfl
        obtain ⟨cs, k1, k2⟩ := hsv
        have hview := TR_view (J := fun b => c.Ip b ∨ b ∈ F s) (fun k b hb => .inl (h.I_ip k b hb)) _ _ _ _ _ hc.1 (fun b hb => .inr hb) k2
        have hroot : Root c.I w (val c a G s) (σ s).1 (F s) (.sl e) xs g none cs (F s) := by rw [← e1]; exact .own (e3 ▸ k1) k2
        obtain ⟨ad, cap, rfl, hsv'⟩ := elem_ptr h e2 hroot rfl (up := []) rfl ⟨rfl, rfl⟩ hview h5
        exact fin_ptr h (main e ad _ cap k1 (tyIs_eq hc.2) ⟨h3, h4⟩) hr hsv'
    | _ => simp [Mp.run] at hr
  | al t xs r m up ex =>
    cases t with
    | sl e =>
      cases ex with
      | true =>
        simp only [Mp.run] at hr
        obtain ⟨hc, hr⟩ := chk_run hr
        simp only [Bool.and_eq_true] at hc
        obtain ⟨y, hrd, hr⟩ := bnd_run hr
        obtain ⟨h3, h4, h5⟩ := rdI_some hrd
        have hm := Nat.eq_of_beq_eq_true hc.1
        obtain ⟨hp, hl⟩ := hsv
        obtain ⟨cs, tr, xr, gr, A, rc, fr, k1, k2, k3, k4⟩ := hl hm
        obtain ⟨k5, A', k6⟩ := k4 rfl
        obtain ⟨ad, cap, rfl, hsv'⟩ := elem_ptr h hm k2 rfl k5 k6 k3.view h5
        exact fin_ptr h (main e ad _ cap k1 (tyIs_eq hc.2) ⟨h3, h4⟩) hr hsv'
      | false =>
        simp only [Mp.run] at hr
        obtain ⟨hc, hr⟩ := chk_run hr
        simp only [Bool.and_eq_true] at hc
        obtain ⟨y, hrd, hr⟩ := bnd_run hr
        have hm := Nat.eq_of_beq_eq_true hc.1
        obtain ⟨hp, hl⟩ := hsv
        obtain ⟨cs, tr, xr, gr, A, rc, fr, k1, k2, k3, k4⟩ := hl hm
        obtain ⟨d, hd⟩ := k3.view
        exact view e xs y (.slot r m) (tyIs_eq hc.2) hrd hp ⟨d, cs, k1, hd⟩ hr
    | _ => simp [Mp.run] at hr
  | vw t xs q =>
    cases t with
    | sl e =>
      obtain ⟨hp, hl⟩ := hsv
      cases q with
      | slot r m =>
        simp only [Mp.run] at hr
        obtain ⟨hc, hr⟩ := chk_run hr
        simp only [Bool.and_eq_true] at hc
        obtain ⟨y, hrd, hr⟩ := bnd_run hr
        exact view e xs y _ (tyIs_eq hc.2) hrd hp (hl (Nat.eq_of_beq_eq_true hc.1)) hr
      | ip =>
        obtain ⟨hc, hr⟩ := chk_run hr
        obtain ⟨y, hrd, hr⟩ := bnd_run hr
        exact view e xs y _ (tyIs_eq hc) hrd hp (hl trivial) hr
      | k =>
        obtain ⟨hc, hr⟩ := chk_run hr
        obtain ⟨y, hrd, hr⟩ := bnd_run hr
        exact view e xs y _ (tyIs_eq hc) hrd hp (hl trivial) hr
    | _ => simp [Mp.run] at hr
  | _ => simp [Mp.run] at hr
end Net

/- Operations that only read, or make a variable. -/
namespace Net
open Go
set_option linter.unusedVariables false
set_option linter.unusedSectionVars false

section
variable {c : Cx} (he : EnvOK c) (ht : TyOK c.P c.E.ty) {σ σ' : St} {a : Act} {w : World} {F : Nat → List Nat} {G : Nat → Value} (h : Sim c σ a w [] F G) {Q : Exit → Act → World → Prop} {o : Oper}
include he h

theorem op_move {x : Operand} {t : Option Ty} (ho : o.op = .move x) (hr : (moveK c.E t x o.dst .done).run σ = some σ') : OpOK c σ' Q a w o := by
  obtain ⟨F', h'⟩ := moveK_ok he h hr
  exact OpOK.value (v := a.eval x) (by simp [execOp, ho]) ⟨F', G, h'⟩
theorem op_assign {x : Operand} {t : Option Ty} (ho : o.op = .assign x) (hr : (assignK c.E t x o.dst .done).run σ = some σ') : OpOK c σ' Q a w o := by
  obtain ⟨F', h'⟩ := assignK_ok he h hr
  exact OpOK.value (v := a.eval x) (by simp [execOp, ho]) ⟨F', G, h'⟩
theorem op_pick {x y z : Operand} {t : Option Ty} (ho : o.op = .pick x y z) (hr : (boolK c.E x fun b => .cond b (moveK c.E t y o.dst .done) (moveK c.E t z o.dst .done)).run σ = some σ') : OpOK c σ' Q a w o := by
  obtain ⟨b, hr, hb⟩ := boolK_run he h hr
  cases b with
  | true =>
    obtain ⟨F', h'⟩ := moveK_ok he h hr
    exact OpOK.value (v := a.eval y) (by simp [execOp, ho, hb, asBool]) ⟨F', G, h'⟩
  | false =>
    obtain ⟨F', h'⟩ := moveK_ok he h hr
    exact OpOK.value (v := a.eval z) (by simp [execOp, ho, hb, asBool]) ⟨F', G, h'⟩

theorem op_nil {x : Operand} (ho : o.op = .nilCheck x) (hr : (nilK c.E x o.dst .done).run σ = some σ') : OpOK c σ' Q a w o := by
  obtain ⟨av, s, n, hop, hr⟩ := rd_run he h hr
  have hsv := hop.sv
  have main : ∀ (ad : Addr) (av : AV), a.eval x = .pointer (some ad) → (setD c.E o.dst av .done).run σ = some σ' → SlotV c σ (val c a G) w F G (a.eval x) [] av → OpOK c σ' Q a w o := by
    intro ad av h1 hr hv
    exact fin_ptr h (v := a.eval x) (by simp [execOp, ho, h1]) hr hv
  cases av with
  | box t y g =>
    cases s with
    | none => simp [Mp.run] at hr
    | some s =>
      obtain ⟨h1, h2, h3, _⟩ := hop.at_ s rfl
      have hb := alias_box h h1.symm h2 []
      obtain ⟨b, cs, f', k1, _⟩ := hsv
      exact main _ _ k1 hr (h3 ▸ hb)
  | ptr t y r m up =>
    simp only [Mp.run] at hr
    obtain ⟨hm, hr⟩ := chk_run hr
    obtain ⟨ad, cs, tr, xr, gr, A, rc, fr, k1, _⟩ := hsv.2 (Nat.eq_of_beq_eq_true hm)
    exact main _ _ k1 hr (SlotV.free rfl hsv)
  | pvw t y q =>
    have fin : ∀ q, srcLive σ q → SlotV c σ (val c a G) w F G (a.eval x) [] (.pvw t y q) → (setD c.E o.dst (.pvw t y q) .done).run σ = some σ' → OpOK c σ' Q a w o := by
      intro q hl hv hr
      obtain ⟨d, ad, cs, k1, _⟩ := hv.2 hl
      exact main _ _ k1 hr hv
    cases q with
    | slot r m =>
      simp only [Mp.run] at hr
      obtain ⟨hm, hr⟩ := chk_run hr
      exact fin (.slot r m) (Nat.eq_of_beq_eq_true hm) (SlotV.free rfl hsv) hr
    | ip => exact fin .ip trivial (SlotV.free rfl hsv) hr
    | k => exact fin .k trivial (SlotV.free rfl hsv) hr
  | _ => simp [Mp.run] at hr

/-- What is plain and no more: a slot that owns it. -/
theorem fin_plain {t : Ty} {x : El t} {cs : List Value} (hx : (execOp a.eval o).run c.P w = .ok (.value (mkV t cs)) w) (hp : PV t x cs) (hr : (setD c.E o.dst (.own t x .own) .done).run σ = some σ') : OpOK c σ' Q a w o :=
  fin_ptr h hx hr ⟨cs, rfl, hp.TR _ _⟩

include ht
theorem op_index {T : Nat} {x i : Operand} (ho : o.op = .index T x i) (hr : (viewK c.E none x fun t a _ => (match t, a with
      | .str, s => chk (tyIs (c.E.ty T) .str) (intK c.E i fun _ n => .bnd (rdS s n) fun b => setD c.E o.dst (.own (.int .u8) b .own) .done)
      | _, _ => .fail)).run σ = some σ') : OpOK c σ' Q a w o := by
  obtain ⟨t, y, q, hr, _, _, d, cs, h1, h2⟩ := viewK_run he h hr
  cases t with
  | str =>
    obtain ⟨hty, hr⟩ := chk_run hr
    obtain ⟨k, n, hr, hi, _⟩ := intK_run he h hr
    obtain ⟨b, hb, hr⟩ := bnd_run hr
    have hu := (ht _ _ (tyIs_eq hty)).und
    cases d with
    | zero => exact h2.elim
    | succ d =>
      obtain ⟨rfl, _⟩ := h2
      have h1 : a.eval x = .string y := h1
      unfold rdS at hb
      split at hb
      · rename_i h0
        cases hq : (y : ByteArray)[n.toNat]? with
        | none => simp [hq] at hb
        | some z =>
          simp only [hq, Option.map_some, Option.some.injEq] at hb
          subst hb
          refine fin_plain he h (cs := [.int .u8 (z.toNat : Int)]) ?_ (pv_int ?_) hr
          · simp [execOp, ho, Instr.index, h1, hi, asIntOf, run_underlying hu, h0, hq, mkV]
          · have := z.toNat_lt
            simp [inR, Lit.wf, IntKind.min, IntKind.max, IntKind.signed, IntKind.bits]
            omega
      · cases hb
  | _ => simp [Mp.run] at hr
end

theorem cells_mkV' {t : Ty} {cs : List Value} (hl : cs.length = csz t) (h1 : ∀ v ∈ cs, v.oneCell' = true) : (mkV t cs).cells = cs.toArray := by
  apply Array.toList_inj.1
  rw [cells_mkV hl h1]

theorem alloc_old (w : World) (ob : Obj) (b : Nat) (hb : b < w.heap.size) : (w.alloc ob).heap[b]? = w.heap[b]? := by
  show (w.heap.push ob)[b]? = _
  rw [Array.getElem?_push]
  simp [Nat.ne_of_lt hb]
theorem alloc_new (w : World) (ob : Obj) : (w.alloc ob).heap[w.heap.size]? = some ob := by show (w.heap.push ob)[w.heap.size]? = _; simp
theorem alloc_frm (w : World) (ob : Obj) (X : List Nat) : Frm w (w.alloc ob) X :=
  ⟨rfl, rfl, rfl, by rw [World.size_alloc]; omega, fun b hb _ => alloc_old w ob b hb⟩

section
variable {c : Cx} {σ σ' : St} {a : Act} {w : World} {X f : List Nat} {F : Nat → List Nat} {G : Nat → Value} (h : Sim c σ a w X F G) {Q : Exit → Act → World → Prop} {o : Oper}
include h
theorem fin_new {ob : Obj} {v : Value} {av : AV} (hx : (execOp a.eval o).run c.P w = .ok (.value v) (w.alloc ob)) (hr : (setD c.E o.dst av .done).run σ = some σ') (hf : ∀ b ∈ f, b ∈ X) (hn : f.Nodup)
    (hv : SlotV c σ (val c a G) (w.alloc ob) F G v (w.heap.size :: f) av) : OpOK c σ' Q a w o := by
  have h1 : (w.heap.size :: f).Nodup := List.nodup_cons.2 ⟨fun hb => by have := (h.xrng _ (hf _ hb)).1; omega, hn⟩
  have h2 : ∀ b ∈ w.heap.size :: f, b < (w.alloc ob).heap.size ∧ (b ∈ X ∨ w.heap.size ≤ b) := by
    intro b hb
    rw [World.size_alloc]
    rcases List.mem_cons.1 hb with rfl | hb
    · exact ⟨by omega, .inr (Nat.le_refl _)⟩
    · exact ⟨by have := (h.xrng _ (hf _ hb)).1; omega, .inl (hf _ hb)⟩
  obtain ⟨F', h'⟩ := fin_set h hr (alloc_frm w ob X) h1 h2 hv
  exact OpOK.value hx ⟨F', G, h'⟩
theorem fin_box {t : Ty} {x : El t} {g : Tag} {cs : List Value} {et : Nat} (hx : (execOp a.eval o).run c.P w = .ok (.value (.pointer (some ⟨w.heap.size, 0, none⟩))) (w.alloc (.cells cs.toArray et))) (hX : X.Nodup)
    (hf : ∀ b ∈ f, b ∈ X) (hn : f.Nodup) (hx2 : TR w c.I g t x cs f) (hr : (setD c.E o.dst (.box t x g) .done).run σ = some σ') : OpOK c σ' Q a w o := by
  refine fin_new (f := f) h hx hr hf hn ⟨w.heap.size, cs, f, rfl, ⟨et, alloc_new _ _⟩, ?_, rfl⟩
  refine TR_same (fun k b hb => ?_) _ _ _ _ _ (fun b hb => alloc_old _ _ _ (h.xrng _ (hf _ hb)).1) hx2
  exact alloc_old _ _ _ (Nat.lt_of_lt_of_le (h.I_ip k b hb).1 h.grow)
end

theorem op_alloc {c : Cx} (ht : TyOK c.P c.E.ty) {σ σ' : St} {a : Act} {w : World} {F : Nat → List Nat} {G : Nat → Value} (h : Sim c σ a w [] F G) {Q : Exit → Act → World → Prop} {o : Oper} {T : Nat} (ho : o.op = .alloc T)
    (hr : (match c.E.ty T with | some t => setD c.E o.dst (.box t (zeroE t) .own) .done | none => .fail).run σ = some σ') : OpOK c σ' Q a w o := by
  cases hT : c.E.ty T with
  | none => simp [hT, Mp.run] at hr
  | some t =>
    simp only [hT] at hr
    have hz := (ht _ _ hT).zeroValue w
    refine fin_box h (cs := zc t) (f := []) (et := T) ?_ (by simp) (by simp) (by simp) (zc_tr _ _ _) hr
    have e := cells_mkV' (zc_len t) (zc_one t)
    simp [execOp, ho, Instr.alloc, hz, newVar, newRow, e]
theorem op_box {c : Cx} (he : EnvOK c) {σ σ' : St} {a : Act} {w : World} {F : Nat → List Nat} {G : Nat → Value} (h : Sim c σ a w [] F G) {Q : Exit → Act → World → Prop} {o : Oper} {T : Nat} {x : Operand} (ho : o.op = .box T x)
    (hr : (match c.E.ty T with
    | some t => boxK c.E t x o.dst .done
    | none => .fail).run σ = some σ') : OpOK c σ' Q a w o := by
  cases hT : c.E.ty T with
  | none => simp [hT, Mp.run] at hr
  | some t =>
    simp only [hT] at hr
    unfold boxK at hr
    cases hsl0 : ioSlot c.E x with
    | none =>
      simp only [hsl0] at hr
      obtain ⟨u, y, g, σ1, F1, f, cs, hr, h1, hm, h2, h3, h4⟩ := takeK_run he h hr
      cases hz : castE u t y with
      | none => simp [hz, Mp.run] at hr
      | some z =>
        simp only [hz] at hr
        have := castE_eq hz
        simp only [Sigma.mk.injEq] at this
        obtain ⟨rfl, e⟩ := this
        have e := eq_of_heq e
        subst e
        rw [List.append_nil] at h1
        refine fin_box h1 (cs := cs) (f := f) (et := T) ?_ h1.xnodup (fun b hb => hb) h1.xnodup h3 hr
        obtain ⟨d, hd⟩ := TR_view (J := fun _ => True) (fun _ _ _ => trivial) _ _ _ _ _ h4 (fun _ _ => trivial) h3
        have e := cells_mkV' (RI_len _ _ _ _ hd) (oneCells _ _ _ _ hd)
        simp [execOp, ho, h2, Instr.box, newVar, newRow, e]
    | some s =>
      simp only [hsl0, Mp.run] at hr
      have hx0 : x = .tmp s ∧ isIo s c.E.io = true ∧ s < c.E.nt := by
        unfold ioSlot at hsl0
        cases x with
        | tmp s' =>
          simp only at hsl0
          cases hio : isIo s' c.E.io && Nat.blt s' c.E.nt with
          | false => simp [hio] at hsl0
          | true =>
            simp only [hio, Option.some.injEq] at hsl0
            subst hsl0
            simp only [Bool.and_eq_true, Nat.blt_eq] at hio
            exact ⟨rfl, hio⟩
        | _ => simp at hsl0
      obtain ⟨rfl, hio⟩ := hx0
      have hsl := h.slot s
      rcases hst : σ s with ⟨avs, n⟩
      rw [hst] at hr hsl
      cases avs with
      | own u y g =>
        simp only at hr
        obtain ⟨hch, hr2⟩ := chk_run hr
        clear hr
        simp only [Bool.and_eq_true, decide_eq_true_eq] at hch
        obtain ⟨rfl, hal⟩ := hch
        obtain ⟨cs, m1, m2⟩ := hsl
        obtain ⟨d, hd⟩ := TR_view (J := fun _ => True) (fun _ _ _ => trivial) _ _ _ _ _ hal (fun _ _ => trivial) m2
        have e := cells_mkV' (RI_len _ _ _ _ hd) (oneCells _ _ _ _ hd)
        have hx : (execOp a.eval o).run c.P w = .ok (.value (.pointer (some ⟨w.heap.size, 0, none⟩))) (w.alloc (.cells cs.toArray T)) := by
          have hv : a.eval (.tmp s) = mkV u cs := by rw [eval_tmp (c := c) (G := G) hio.2, m1]
          simp [execOp, ho, hv, Instr.box, newVar, newRow, e]
        exact fin_new (f := []) h hx hr2 (by simp) (by simp) ⟨hio.1, hio.2, w.heap.size, cs, rfl, ⟨T, alloc_new _ _⟩, m1, TR_len _ _ _ _ _ m2, rfl⟩
      | _ => simp [Mp.run] at hr
end Net

/- '==' of plain data. -/
namespace Net
open Go
set_option linter.unusedVariables false

theorem HL_ext : ∀ (ts : List Ty) (x y : HL ts), (∀ j u a b, nthL ts x j = some ⟨u, a⟩ → nthL ts y j = some ⟨u, b⟩ → a = b) → x = y
  | [], _, _, _ => rfl
  | t :: ts, x, y, h => by
    have h1 := h 0 t x.1 y.1 rfl rfl
    have h2 := HL_ext ts x.2 y.2 (fun j u a b ha hb => h (j + 1) u a b (by simpa only [nthL] using ha) (by simpa only [nthL] using hb))
    exact Prod.ext h1 h2
theorem nthL_get : ∀ (ts : List Ty) (x : HL ts) (i : Nat) (u : Ty), ts[i]? = some u → ∃ a, nthL ts x i = some ⟨u, a⟩
  | [], _, i, u, h => by simp at h
  | t :: ts, x, 0, u, h => by simp at h; subst h; exact ⟨x.1, rfl⟩
  | t :: ts, x, i + 1, u, h => by
    obtain ⟨a, ha⟩ := nthL_get ts x.2 i u (by simpa using h)
    exact ⟨a, by simpa only [nthL] using ha⟩

theorem part_run {P : Program} {ty : Nat → Option Ty} {T : Nat} {t : Ty} (hty : TyAt P ty T t) {cs : List Value} {o : Nat} (hl : o + csz t ≤ cs.length) (w : World) : (part T cs.toArray o).run P w = .ok (mkV t ((cs.drop o).take (csz t))) w := by
  have h1 := hty.isAgg w
  have h2 := hty.sizeOf w
  cases t with
  | st s =>
    simp only [part, Sem.run_bind, h1, Result.andThen_ok, if_true, h2, Sem.run_pure, mkV]
    congr 2
    apply Array.toList_inj.1
    simp
  | _ =>
    simp only [csz] at hl
    have : o < cs.length := by omega
    have e := List.drop_eq_getElem_cons this
    simp only [mkV, csz, e, List.take_succ_cons, List.headD_cons]
    simp [part, Sem.run_bind, h1, Result.andThen_ok, this]

theorem beq_bytes (a b : ByteArray) : (a == b) = true ↔ a = b := by
  rw [beq_toListBytes, beq_iff_eq, ByteArray.toList_eq, ByteArray.toList_eq]
  obtain ⟨⟨x⟩⟩ := a
  obtain ⟨⟨y⟩⟩ := b
  simp

theorem equalIn_run {P : Program} {ty : Nat → Option Ty} (hT : TyOK P ty) : ∀ (d : Nat) (T : Nat) (t : Ty) (x y : El t) (cs cs' : List Value) (w : World) (J J' : Nat → Prop) (d1 d2 : Nat), rk t < d → plainT t = true → TyAt P ty T t → RI w J d1 t x cs → RI w J' d2 t y cs' →
    ∃ r, (Op.equalIn d T (mkV t cs) (mkV t cs')).run P w = .ok r w ∧ (r = true ↔ x = y)
  | 0, T, t, x, y, cs, cs', w, J, J', d1, d2, h, _, _, _, _ => absurd h (by omega)
  | d + 1, T, t, x, y, cs, cs', w, J, J', 0, d2, _, _, _, h, _ => h.elim
  | d + 1, T, t, x, y, cs, cs', w, J, J', d1 + 1, 0, _, _, _, _, h => h.elim
  | d + 1, T, .sl e, x, y, cs, cs', w, J, J', d1 + 1, d2 + 1, _, hp, _, _, _ => by simp [plainT] at hp
  | d + 1, T, .int k, x, y, cs, cs', w, J, J', d1 + 1, d2 + 1, _, hp, hty, hx, hy => by
    obtain ⟨rfl, _⟩ := hx
    obtain ⟨rfl, _⟩ := hy
    exact ⟨_, run_equalIn_int w d T k k x y hty.und, by simp⟩
  | d + 1, T, .bool, x, y, cs, cs', w, J, J', d1 + 1, d2 + 1, _, hp, hty, hx, hy => by
    simp only [RI] at hx hy
    subst hx; subst hy
    exact ⟨_, run_equalIn_bool w d T x y hty.und, by simp⟩
  | d + 1, T, .str, x, y, cs, cs', w, J, J', d1 + 1, d2 + 1, _, hp, hty, hx, hy => by
    obtain ⟨rfl, _⟩ := hx
    obtain ⟨rfl, _⟩ := hy
    refine ⟨_, run_equalIn_string w d T x y hty.und, ?_⟩
    rw [← beq_toListBytes]
    exact beq_bytes x y
  | d + 1, T, .st s, x, y, cs, cs', w, J, J', d1 + 1, d2 + 1, hrk, hp, hty, hx, hy => by
    obtain ⟨fs, h1, h2, h3⟩ := hty.und
    have hf : P.fieldsOf T = fs := by simp [Program.fieldsOf, h1]
    have hlx := RI_len _ _ _ _ hx
    have hly := RI_len _ _ _ _ hy
    have key : ∀ n i, fs.size - i = n → ∃ r, (Op.eqFields d cs.toArray cs'.toArray (fs.toList.drop i)).run P w = .ok r w ∧ (r = true ↔ ∀ j, i ≤ j → ∀ u a b, nthL (fieldsOf s) (toL s x) j = some ⟨u, a⟩ → nthL (fieldsOf s) (toL s y) j = some ⟨u, b⟩ → a = b) := by
      intro n
      induction n with
      | zero =>
        intro i hi
        have : fs.toList.drop i = [] := List.drop_eq_nil_iff.2 (by simp; omega)
        rw [this]
        refine ⟨true, rfl, ?_⟩
        simp only [true_iff]
        intro j hj u a b ha hb
        have := (nthL_lt _ _ _ _ ha).1
        omega
      | succ n ih =>
        intro i hi
        have hil : i < fs.size := by omega
        have hd : fs.toList.drop i = fs[i] :: fs.toList.drop (i + 1) := by
          rw [List.drop_eq_getElem_cons (by simpa using hil)]
          simp
        obtain ⟨u, h4, h5, h6, h7⟩ := h3 i fs[i] (by simp [hil])
        obtain ⟨a, ha⟩ := nthL_get _ (toL s x) i u h4
        obtain ⟨b, hb⟩ := nthL_get _ (toL s y) i u h4
        obtain ⟨_, dx, hax⟩ := RI_field hx ha
        obtain ⟨_, dy, hby⟩ := RI_field hy hb
        have hmem : u ∈ fieldsOf s := List.mem_of_getElem? h4
        have l1 := RI_len _ _ _ _ hax
        have l2 := RI_len _ _ _ _ hby
        simp only [List.length_take, List.length_drop] at l1 l2
        have hpos := csz_pos u
        have p1 := part_run (P := P) (hT _ _ h5) (cs := cs) (o := offs (fieldsOf s) i) (by omega) w
        have p2 := part_run (P := P) (hT _ _ h5) (cs := cs') (o := offs (fieldsOf s) i) (by omega) w
        obtain ⟨r1, e1, e2⟩ := equalIn_run hT d fs[i].type u a b _ _ w J J' dx dy (by have := rk_fields s u hmem; omega) (plain_fields hp u hmem) (hT _ _ h5) hax hby
        obtain ⟨r2, e3, e4⟩ := ih (i + 1) (by omega)
        rw [hd]
        simp only [Op.eqFields, ne_eq, h7, not_false_eq_true, if_true, Sem.run_bind, h6, p1, p2, e1, Result.andThen_ok]
        cases r1 with
        | false =>
          refine ⟨false, by simp, ?_⟩
          simp only [Bool.false_eq_true, false_iff]
          intro hall
          exact absurd (e2.2 (hall i (Nat.le_refl _) u a b ha hb)) (by simp)
        | true =>
          refine ⟨r2, by simpa using e3, ?_⟩
          rw [e4]
          constructor
          · intro hh j hj v a' b' ha' hb'
            rcases Nat.eq_or_lt_of_le hj with rfl | hj
            · rw [ha] at ha'
              rw [hb] at hb'
              simp only [Option.some.injEq, Sigma.mk.injEq] at ha' hb'
              obtain ⟨rfl, ha'⟩ := ha'
              have ha' := eq_of_heq ha'
              have hb' := eq_of_heq hb'.2
              subst ha'; subst hb'
              exact e2.1 rfl
            · exact hh j (by omega) v a' b' ha' hb'
          · intro hh j hj
            exact hh j (by omega)
    obtain ⟨r, e1, e2⟩ := key _ 0 rfl
    refine ⟨r, ?_, ?_⟩
    · have := run_equalIn_struct (P := P) w d T cs.toArray cs'.toArray (by rw [hf]; exact h1) (hty.eqg hp).2
      rw [hf] at this
      simp only [mkV]
      rw [this]
      simpa using e1
    · rw [e2]
      constructor
      · intro hh
        have := HL_ext _ _ _ (fun j u a b => hh j (by omega) u a b)
        have e := congrArg (ofL s) this
        rwa [ofL_toL, ofL_toL] at e
      · rintro rfl j _ u a b ha hb
        rw [ha] at hb
        simp only [Option.some.injEq, Sigma.mk.injEq, heq_eq_eq, true_and] at hb
        exact hb

theorem eqE_iff : ∀ (t : Ty) (x y : El t) (r : Bool), eqE t x y = some r → plainT t = true ∧ (r = true ↔ x = y)
  | .int k, x, y, r, h => by simp only [eqE, Option.some.injEq] at h; subst h; exact ⟨rfl, by simp⟩
  | .bool, x, y, r, h => by simp only [eqE, Option.some.injEq] at h; subst h; exact ⟨rfl, by simp⟩
  | .str, x, y, r, h => by simp only [eqE, Option.some.injEq] at h; subst h; exact ⟨rfl, beq_bytes x y⟩
  | .sl e, x, y, r, h => by simp [eqE] at h
  | .st s, x, y, r, h => by
    cases s <;> simp only [eqE, Option.some.injEq, reduceCtorEq] at h
    all_goals subst h; exact ⟨rfl, by simp⟩
end Net

/- Arithmetic, comparison, conversion. -/
namespace Net
open Go
set_option linter.unusedVariables false
set_option linter.unusedSectionVars false

theorem inR_fdiv {q : IntKind} {m : Int} (h : inR q m) (n : Nat) : inR q (m.fdiv (2 ^ n)) := by
  have hp : (0 : Int) < 2 ^ n := Int.pow_pos (by omega)
  have h1 : (1 : Int) ≤ 2 ^ n := hp
  rw [Int.fdiv_eq_ediv_of_nonneg _ (by omega)]
  have key : (0 ≤ m → 0 ≤ m / 2 ^ n ∧ m / 2 ^ n ≤ m) ∧ (m < 0 → m ≤ m / 2 ^ n ∧ m / 2 ^ n < 0) := by
    constructor
    · intro h0
      exact ⟨Int.ediv_nonneg h0 (by omega), Int.ediv_le_self _ h0⟩
    · intro h0
      refine ⟨?_, Int.ediv_neg_of_neg_of_pos h0 hp⟩
      apply Int.le_ediv_of_mul_le hp
      have : m * 2 ^ n ≤ m * 1 := Int.mul_le_mul_of_nonpos_left (by omega) h1
      omega
  unfold inR at h ⊢
  simp only [Lit.wf, Bool.and_eq_true, decide_eq_true_eq] at h ⊢
  rcases Int.lt_or_le m 0 with h0 | h0
  · have := key.2 h0
    refine ⟨by omega, ?_⟩
    have : (0 : Int) ≤ q.max := by cases q <;> simp [IntKind.max, IntKind.signed, IntKind.bits]
    omega
  · have := key.1 h0
    refine ⟨?_, by omega⟩
    have : q.min ≤ 0 := by cases q <;> simp [IntKind.min, IntKind.signed, IntKind.bits]
    omega
theorem tmod_le' (m n : Int) (h : 0 ≤ m) : m.tmod n ≤ m := by
  obtain ⟨k, rfl⟩ := Int.eq_ofNat_of_zero_le h
  rcases Int.natAbs_eq n with e | e <;> rw [e]
  · have : ((k : Int).tmod (n.natAbs : Int)) = ((k % n.natAbs : Nat) : Int) := rfl
    rw [this]
    have := Nat.mod_le k n.natAbs
    omega
  · rw [Int.tmod_neg]
    have : ((k : Int).tmod (n.natAbs : Int)) = ((k % n.natAbs : Nat) : Int) := rfl
    rw [this]
    have := Nat.mod_le k n.natAbs
    omega
theorem inR_tmod {q : IntKind} {m n : Int} (h : inR q m) : inR q (m.tmod n) := by
  unfold inR at h ⊢
  simp only [Lit.wf, Bool.and_eq_true, decide_eq_true_eq] at h ⊢
  have k0 : q.min ≤ 0 := by cases q <;> simp [IntKind.min, IntKind.signed, IntKind.bits]
  have k1 : (0 : Int) ≤ q.max := by cases q <;> simp [IntKind.max, IntKind.signed, IntKind.bits]
  rcases Int.lt_or_le m 0 with h0 | h0
  · have e : m.tmod n = - ((-m).tmod n) := by rw [Int.neg_tmod]; omega
    have := Int.tmod_nonneg n (show 0 ≤ -m by omega)
    have h2 := tmod_le' (-m) n (by omega)
    omega
  · have := Int.tmod_nonneg n h0
    have h2 := tmod_le' m n h0
    omega

section
variable {c : Cx} (he : EnvOK c) (ht : TyOK c.P c.E.ty) {σ σ' : St} {a : Act} {w : World} {F : Nat → List Nat} {G : Nat → Value} (h : Sim c σ a w [] F G) {Q : Exit → Act → World → Prop} {o : Oper}
include he ht h

theorem eq_ok {op : BinOp} {fr : Bool → Bool} (hop : (op = .eql ∧ fr = fun r => r) ∨ (op = .neq ∧ fr = fun r => !r)) {T : Nat} {x y : Operand} {t u : Ty} {p : El t} {q : El u} {sx sy : VS} {ot : Nat} (ho : o.op = .binOp op T x y ot) {d1 d2 : Nat} {cx cy : List Value}
    (hx : a.eval x = mkV t cx) (hx2 : RI w (srcJ c F sx) d1 t p cx) (hy : a.eval y = mkV u cy) (hy2 : RI w (srcJ c F sy) d2 u q cy)
    (hr : (chk (tyIs (c.E.ty T) t) (match castE u t q with | some b => (match eqE t p b with | some r => setD c.E o.dst (.own .bool (fr r) .own) .done | none => .fail) | none => .fail)).run σ = some σ') : OpOK c σ' Q a w o := by
  obtain ⟨hty, hr⟩ := chk_run hr
  have hty := ht _ _ (tyIs_eq hty)
  cases hc : castE u t q with
  | none => simp [hc, Mp.run] at hr
  | some b =>
    simp only [hc] at hr
    have := castE_eq hc
    simp only [Sigma.mk.injEq] at this
    obtain ⟨rfl, e⟩ := this
    have e := eq_of_heq e
    subst e
    cases hq : eqE u p q with
    | none => simp [hq, Mp.run] at hr
    | some r =>
      simp only [hq] at hr
      obtain ⟨hp, hiff⟩ := eqE_iff _ _ _ _ hq
      obtain ⟨r', e1, e2⟩ := equalIn_run ht 10000 T u p q cx cy w _ _ d1 d2 (by cases u with | st s => cases s <;> simp [rk] | _ => simp [rk]) hp hty hx2 hy2
      have hrr : r' = r := by
        cases r <;> cases r' <;> simp_all
      subst hrr
      refine fin_plain he h (cs := [.bool (fr r')]) ?_ pv_bool hr
      have guard : ∀ op, (eqGuard op T x y (mkV u cx) (mkV u cy)).run c.P w = .ok () w := by
        intro op
        cases u with
        | st s => exact run_eqGuard_agg w op T x y _ _ (hty.eqg hp).1
        | sl e => simp [plainT] at hp
        | int k =>
          cases d1 with
          | zero => exact hx2.elim
          | succ d1 =>
            cases d2 with
            | zero => exact hy2.elim
            | succ d2 =>
              obtain ⟨rfl, _⟩ := hx2
              obtain ⟨rfl, _⟩ := hy2
              cases op <;> simp [eqGuard, mkV]
        | bool =>
          cases d1 with
          | zero => exact hx2.elim
          | succ d1 =>
            cases d2 with
            | zero => exact hy2.elim
            | succ d2 =>
              simp only [RI] at hx2 hy2
              subst hx2; subst hy2
              cases op <;> simp [eqGuard, mkV]
        | str =>
          cases d1 with
          | zero => exact hx2.elim
          | succ d1 =>
            cases d2 with
            | zero => exact hy2.elim
            | succ d2 =>
              obtain ⟨rfl, _⟩ := hx2
              obtain ⟨rfl, _⟩ := hy2
              cases op <;> simp [eqGuard, mkV]
      have bin : ∀ (op : BinOp), (op = .eql ∨ op = .neq) → (binOp op T (mkV u cx) (mkV u cy)).run c.P w = .ok (.bool (match op with | .neq => !r' | _ => r')) w := by
        intro op hop
        cases u with
        | st s =>
          rcases hop with rfl | rfl
          · have := run_eql_struct (P := c.P) w T cx.toArray cy.toArray
            rw [show (Op.equalIn 10000 T (.agg cx.toArray) (.agg cy.toArray)).run c.P w = .ok r' w from e1] at this
            exact this
          · have := run_neq_struct (P := c.P) w T cx.toArray cy.toArray
            rw [show (Op.equalIn 10000 T (.agg cx.toArray) (.agg cy.toArray)).run c.P w = .ok r' w from e1] at this
            exact this
        | sl e => simp [plainT] at hp
        | int k =>
          cases d1 with
          | zero => exact hx2.elim
          | succ d1 =>
            cases d2 with
            | zero => exact hy2.elim
            | succ d2 =>
              obtain ⟨rfl, _⟩ := hx2
              obtain ⟨rfl, _⟩ := hy2
              have hb : ((p : Int) == q) = r' := by cases r' <;> simp_all
              have hn : ((p : Int) != q) = !r' := by rw [bne, hb]
              rcases hop with rfl | rfl <;> simp only [binOp, mkV, List.headD_cons, ne_eq, not_true_eq_false, if_false, Op.intCmp, hb, hn] <;> rfl
        | bool =>
          cases d1 with
          | zero => exact hx2.elim
          | succ d1 =>
            cases d2 with
            | zero => exact hy2.elim
            | succ d2 =>
              simp only [RI] at hx2 hy2
              subst hx2; subst hy2
              rcases hop with rfl | rfl
              · simp only [binOp, mkV, List.headD_cons, Sem.run_bind, Op.equal, Op.maxDepth]
                rw [show (Op.equalIn 10000 T (.bool p) (.bool q)).run c.P w = .ok r' w from e1]; rfl
              · simp only [binOp, mkV, List.headD_cons, Sem.run_bind, Op.equal, Op.maxDepth]
                rw [show (Op.equalIn 10000 T (.bool p) (.bool q)).run c.P w = .ok r' w from e1]; rfl
        | str =>
          cases d1 with
          | zero => exact hx2.elim
          | succ d1 =>
            cases d2 with
            | zero => exact hy2.elim
            | succ d2 =>
              obtain ⟨rfl, _⟩ := hx2
              obtain ⟨rfl, _⟩ := hy2
              have hb : ((p : ByteArray).toList == (q : ByteArray).toList) = r' := by
                rw [← beq_toListBytes]
                have := beq_bytes p q
                cases r' <;> simp_all
              rcases hop with rfl | rfl <;> simp only [binOp, mkV, List.headD_cons, Op.stringOp, hb] <;> rfl
      rcases hop with ⟨rfl, rfl⟩ | ⟨rfl, rfl⟩
      · have g := guard .eql
        have b := bin .eql (.inl rfl)
        simp only [execOp, ho, hx, hy, Sem.run_bind, g, b, Result.andThen_ok, Sem.run_pure]
        rfl
      · have g := guard .neq
        have b := bin .neq (.inr rfl)
        simp only [execOp, ho, hx, hy, Sem.run_bind, g, b, Result.andThen_ok, Sem.run_pure]
        rfl

omit ht in
/-- two integers -/
theorem int_ok {op : BinOp} {T : Nat} {x y : Operand} {q q' : IntKind} {m n : Int} {ot : Nat} (ho : o.op = .binOp op T x y ot) (hx : a.eval x = .int q m) (hy : a.eval y = .int q' n) {t : Ty} {r : El t} {v : Value} (hb : ∀ w, (binOp op T (.int q m) (.int q' n)).run c.P w = .ok v w) (hv : v = mkV t [v]) (hp : PV t r [v])
    (hr : (setD c.E o.dst (.own t r .own) .done).run σ = some σ') : OpOK c σ' Q a w o := by
  refine fin_plain he h (cs := [v]) ?_ hp hr
  have g : (eqGuard op T x y (.int q m) (.int q' n)).run c.P w = .ok () w := by cases op <;> simp [eqGuard]
  have b := hb w
  rw [← hv]
  simp only [execOp, ho, hx, hy, Sem.run_bind, g, b, Result.andThen_ok, Sem.run_pure]

theorem op_bin {op : BinOp} {T : Nat} {x y : Operand} {ot : Nat} (ho : o.op = .binOp op T x y ot) (hr : (binK c.E op (c.E.ty T) x y o.dst .done).run σ = some σ') : OpOK c σ' Q a w o := by
  obtain ⟨t, p, sx, hr, _, _, d1, cx, hx, hx2⟩ := viewK_run he h hr
  obtain ⟨u, q, sy, hr, _, _, d2, cy, hy, hy2⟩ := viewK_run he h hr
  have ints : ∀ (k k' : IntKind) (m n : Int), t = .int k → u = .int k' → (⟨t, p⟩ : (t : Ty) × El t) = ⟨.int k, m⟩ → (⟨u, q⟩ : (t : Ty) × El t) = ⟨.int k', n⟩ → a.eval x = .int k m ∧ a.eval y = .int k' n ∧ inR k m ∧ inR k' n := by
    rintro k k' m n rfl rfl e1 e2
    simp only [Sigma.mk.injEq, heq_eq_eq, true_and] at e1 e2
    subst e1; subst e2
    cases d1 with
    | zero => exact hx2.elim
    | succ d1 =>
      cases d2 with
      | zero => exact hy2.elim
      | succ d2 =>
        obtain ⟨rfl, h1⟩ := hx2
        obtain ⟨rfl, h2⟩ := hy2
        exact ⟨hx, hy, h1, h2⟩
  have arith : ∀ (k k' : IntKind) (m n : Int) (f : Int → Int), a.eval x = .int k m → a.eval y = .int k' n → k = k' → (∀ w, (binOp op T (.int k m) (.int k n)).run c.P w = .ok (.int k (k.wrap (f 0))) w) → (setD c.E o.dst (.own (.int k) (k.wrap (f 0)) .own) .done).run σ = some σ' → OpOK c σ' Q a w o := by
    rintro k k' m n f h1 h2 rfl hb hr
    exact int_ok he h ho h1 h2 hb rfl (pv_int (wf_wrap' _ _)) hr
  have arithR : ∀ (k k' : IntKind) (m n r : Int), a.eval x = .int k m → a.eval y = .int k' n → k = k' → inR k r → (∀ w, (binOp op T (.int k m) (.int k n)).run c.P w = .ok (.int k r) w) → (setD c.E o.dst (.own (.int k) r .own) .done).run σ = some σ' → OpOK c σ' Q a w o := by
    rintro k k' m n r h1 h2 rfl hw hb hr
    exact int_ok he h ho h1 h2 hb rfl (pv_int hw) hr
  have cmp : ∀ (k k' : IntKind) (m n : Int) (b : Bool), a.eval x = .int k m → a.eval y = .int k' n → k = k' → (∀ w, (binOp op T (.int k m) (.int k n)).run c.P w = .ok (.bool b) w) → (setD c.E o.dst (.own .bool b .own) .done).run σ = some σ' → OpOK c σ' Q a w o := by
    rintro k k' m n b h1 h2 rfl hb hr
    exact int_ok he h ho h1 h2 hb rfl pv_bool hr
  cases op with
  | eql => exact eq_ok he ht h (.inl ⟨rfl, rfl⟩) ho hx hx2 hy hy2 hr
  | neq => exact eq_ok he ht h (.inr ⟨rfl, rfl⟩) ho hx hx2 hy hy2 hr
  | shl =>
    cases t <;> cases u <;> try (simp [Mp.run] at hr; done)
    obtain ⟨h1, h2, h3, h4⟩ := ints _ _ p q rfl rfl rfl rfl
    simp only at hr
    obtain ⟨r, hrr, hr⟩ := bnd_run hr
    unfold binK.shlI at hrr
    split at hrr
    · cases hrr
    · rename_i hn
      simp only [Option.some.injEq] at hrr
      subst hrr
      exact int_ok he h ho h1 h2 (fun w => by simp only [binOp, Op.shift, if_neg hn]; rfl) rfl (pv_int (wf_wrap' _ _)) hr
  | shr =>
    cases t <;> cases u <;> try (simp [Mp.run] at hr; done)
    obtain ⟨h1, h2, h3, h4⟩ := ints _ _ p q rfl rfl rfl rfl
    simp only at hr
    obtain ⟨r, hrr, hr⟩ := bnd_run hr
    unfold binK.shrI at hrr
    split at hrr
    · cases hrr
    · rename_i hn
      simp only [Option.some.injEq] at hrr
      subst hrr
      exact int_ok he h ho h1 h2 (fun w => by simp only [binOp, Op.shift, if_neg hn]; rfl) rfl (pv_int (inR_fdiv h3 _)) hr
  | add =>
    cases t <;> cases u <;> try (simp [Mp.run] at hr; done)
    · obtain ⟨h1, h2, h3, h4⟩ := ints _ _ p q rfl rfl rfl rfl
      simp only at hr
      split at hr
      · rename_i hk
        exact arith _ _ _ _ (fun _ => p + q) h1 h2 (of_decide_eq_true hk) (fun w => by simp [binOp, Op.intArith]) hr
      · simp [Mp.run] at hr
    · simp only at hr
      obtain ⟨r, hrr, hr⟩ := bnd_run hr
      cases d1 with
      | zero => exact hx2.elim
      | succ d1 =>
        cases d2 with
        | zero => exact hy2.elim
        | succ d2 =>
          obtain ⟨rfl, _⟩ := hx2
          obtain ⟨rfl, _⟩ := hy2
          unfold addS at hrr
          split at hrr
          · rename_i hl
            simp only [Option.some.injEq] at hrr
            subst hrr
            simp only [room] at hl
            have hx : a.eval x = .string p := hx
            have hy : a.eval y = .string q := hy
            have hl1 : ByteArray.size p + ByteArray.size q ≤ 68719476736 := hl
            refine fin_plain he h (cs := [.string (ByteArray.append p q)]) ?_ (pv_str ?_) hr
            · have hno : ¬ (((ByteArray.size p + ByteArray.size q : Nat) : Int) > IntKind.i64.max) := by
                have : IntKind.i64.max = 9223372036854775807 := rfl
                omega
              simp only [execOp, ho, hx, hy, eqGuard, binOp, Op.stringOp, if_neg hno]
              rfl
            · have : (ByteArray.append p q).size = ByteArray.size p + ByteArray.size q := ByteArray.size_append
              rw [this]
              simp only [maxLen]
              omega
          · cases hrr
  | sub =>
    cases t <;> cases u <;> try (simp [Mp.run] at hr; done)
    obtain ⟨h1, h2, h3, h4⟩ := ints _ _ p q rfl rfl rfl rfl
    simp only at hr
    split at hr
    · rename_i hk
      exact arith _ _ _ _ (fun _ => p - q) h1 h2 (of_decide_eq_true hk) (fun w => by simp [binOp, Op.intArith]) hr
    · simp [Mp.run] at hr
  | mul =>
    cases t <;> cases u <;> try (simp [Mp.run] at hr; done)
    obtain ⟨h1, h2, h3, h4⟩ := ints _ _ p q rfl rfl rfl rfl
    simp only at hr
    split at hr
    · rename_i hk
      exact arith _ _ _ _ (fun _ => p * q) h1 h2 (of_decide_eq_true hk) (fun w => by simp [binOp, Op.intArith]) hr
    · simp [Mp.run] at hr
  | quo =>
    cases t <;> cases u <;> try (simp [Mp.run] at hr; done)
    obtain ⟨h1, h2, h3, h4⟩ := ints _ _ p q rfl rfl rfl rfl
    simp only at hr
    split at hr
    · rename_i hk
      obtain ⟨r, hrr, hr⟩ := bnd_run hr
      have hk := of_decide_eq_true hk
      subst hk
      unfold divI at hrr
      split at hrr
      · cases hrr
      · rename_i hn
        simp only [Option.some.injEq] at hrr
        subst hrr
        exact int_ok he h ho h1 h2 (fun w => by simp [binOp, Op.intDiv, hn]) rfl (pv_int (wf_wrap' _ _)) hr
    · simp [Mp.run] at hr
  | rem =>
    cases t <;> cases u <;> try (simp [Mp.run] at hr; done)
    obtain ⟨h1, h2, h3, h4⟩ := ints _ _ p q rfl rfl rfl rfl
    simp only at hr
    split at hr
    · rename_i hk
      obtain ⟨r, hrr, hr⟩ := bnd_run hr
      have hk := of_decide_eq_true hk
      subst hk
      unfold remI at hrr
      split at hrr
      · cases hrr
      · rename_i hn
        simp only [Option.some.injEq] at hrr
        subst hrr
        exact int_ok he h ho h1 h2 (fun w => by simp [binOp, Op.intDiv, hn]) rfl (pv_int (inR_tmod h3)) hr
    · simp [Mp.run] at hr
  | and =>
    cases t <;> cases u <;> try (simp [Mp.run] at hr; done)
    obtain ⟨h1, h2, h3, h4⟩ := ints _ _ p q rfl rfl rfl rfl
    simp only at hr
    split at hr
    · rename_i hk
      exact arithR _ _ _ _ _ h1 h2 (of_decide_eq_true hk) (wf_wrap' _ _) (fun w => by simp [binOp, Op.intBits]) hr
    · simp [Mp.run] at hr
  | or =>
    cases t <;> cases u <;> try (simp [Mp.run] at hr; done)
    obtain ⟨h1, h2, h3, h4⟩ := ints _ _ p q rfl rfl rfl rfl
    simp only at hr
    split at hr
    · rename_i hk
      exact arithR _ _ _ _ _ h1 h2 (of_decide_eq_true hk) (wf_wrap' _ _) (fun w => by simp [binOp, Op.intBits]) hr
    · simp [Mp.run] at hr
  | xor =>
    cases t <;> cases u <;> try (simp [Mp.run] at hr; done)
    obtain ⟨h1, h2, h3, h4⟩ := ints _ _ p q rfl rfl rfl rfl
    simp only at hr
    split at hr
    · rename_i hk
      exact arithR _ _ _ _ _ h1 h2 (of_decide_eq_true hk) (wf_wrap' _ _) (fun w => by simp [binOp, Op.intBits]) hr
    · simp [Mp.run] at hr
  | lss =>
    cases t <;> cases u <;> try (simp [Mp.run] at hr; done)
    obtain ⟨h1, h2, h3, h4⟩ := ints _ _ p q rfl rfl rfl rfl
    simp only at hr
    split at hr
    · rename_i hk
      exact cmp _ _ _ _ _ h1 h2 (of_decide_eq_true hk) (fun w => by simp [binOp, Op.intCmp]) hr
    · simp [Mp.run] at hr
  | leq =>
    cases t <;> cases u <;> try (simp [Mp.run] at hr; done)
    obtain ⟨h1, h2, h3, h4⟩ := ints _ _ p q rfl rfl rfl rfl
    simp only at hr
    split at hr
    · rename_i hk
      exact cmp _ _ _ _ _ h1 h2 (of_decide_eq_true hk) (fun w => by simp [binOp, Op.intCmp]) hr
    · simp [Mp.run] at hr
  | gtr =>
    cases t <;> cases u <;> try (simp [Mp.run] at hr; done)
    obtain ⟨h1, h2, h3, h4⟩ := ints _ _ p q rfl rfl rfl rfl
    simp only at hr
    split at hr
    · rename_i hk
      exact cmp _ _ _ _ _ h1 h2 (of_decide_eq_true hk) (fun w => by simp [binOp, Op.intCmp]) hr
    · simp [Mp.run] at hr
  | geq =>
    cases t <;> cases u <;> try (simp [Mp.run] at hr; done)
    obtain ⟨h1, h2, h3, h4⟩ := ints _ _ p q rfl rfl rfl rfl
    simp only at hr
    split at hr
    · rename_i hk
      exact cmp _ _ _ _ _ h1 h2 (of_decide_eq_true hk) (fun w => by simp [binOp, Op.intCmp]) hr
    · simp [Mp.run] at hr
  | andNot =>
    cases t <;> cases u <;> try (simp [Mp.run] at hr; done)
    simp only at hr
    split at hr <;> simp [Mp.run] at hr

omit ht in
theorem op_un {op : UnOp} {T : Nat} {x : Operand} (ho : o.op = .unOp op T x) (hr : (unK c.E op x o.dst .done).run σ = some σ') : OpOK c σ' Q a w o := by
  obtain ⟨t, p, sx, hr, _, _, d1, cx, hx, hx2⟩ := viewK_run he h hr
  cases d1 with
  | zero => exact hx2.elim
  | succ d1 =>
    cases op <;> cases t <;> try (simp [Mp.run] at hr; done)
    · rename_i k
      obtain ⟨rfl, h1⟩ := hx2
      have hx : a.eval x = .int k p := hx
      exact fin_plain he h (cs := [.int k (k.wrap (0 - p))]) (by simp [execOp, ho, hx, Op.unary, Op.intArith, mkV]) (pv_int (wf_wrap' _ _)) hr
    · simp only [RI] at hx2
      subst hx2
      have hx : a.eval x = .bool p := hx
      exact fin_plain he h (cs := [.bool (!p)]) (by simp [execOp, ho, hx, Op.unary, mkV]) pv_bool hr

theorem op_conv {S T : Nat} {x : Operand} (ho : o.op = .convert S T x) (hr : (convK c.E (c.E.ty S) (c.E.ty T) x o.dst .done).run σ = some σ') : OpOK c σ' Q a w o := by
  obtain ⟨t, p, sx, hr, _, _, d1, cx, hx, hx2⟩ := viewK_run he h hr
  cases d1 with
  | zero => exact hx2.elim
  | succ d1 =>
    cases t <;> try (simp [Mp.run] at hr; done)
    rename_i k
    obtain ⟨rfl, h1⟩ := hx2
    have hx : a.eval x = .int k p := hx
    cases hT : c.E.ty T with
    | none => simp [hT, Mp.run] at hr
    | some t' =>
      cases t' <;> simp only [hT] at hr <;> try (simp [Mp.run] at hr; done)
      rename_i k'
      obtain ⟨hty, hr⟩ := chk_run hr
      have u1 := (ht _ _ (tyIs_eq hty)).und
      have u2 := (ht _ _ hT).und
      exact fin_plain he h (cs := [.int k' (k'.wrap p)]) (by simp [execOp, ho, hx, convert, run_underlying u1, run_underlying u2, Conv.intToInt, mkV]) (pv_int (wf_wrap' _ _)) hr
end
end Net

/- Lengths, slices, parts of tuples, closures. -/
namespace Net
open Go
set_option linter.unusedVariables false
set_option linter.unusedSectionVars false

theorem toList_one {α : Type} {a : Array α} {x : α} (h : a.toList = [x]) : a = #[x] := Array.toList_inj.1 h
theorem toList_two {α : Type} {a : Array α} {x y : α} (h : a.toList = [x, y]) : a = #[x, y] := Array.toList_inj.1 h
theorem at0_some {ty : Nat → Option Ty} {ts : Array Nat} {t : Ty} (h : at0 ty ts = some t) : ∃ T, ts[0]? = some T ∧ ty T = some t := by
  unfold at0 at h
  rw [← Array.getElem?_toList]
  split at h
  · rename_i T r hl
    rw [hl]; exact ⟨T, rfl, h⟩
  · cases h
theorem at1_some {ty : Nat → Option Ty} {ts : Array Nat} {t : Ty} (h : at1 ty ts = some t) : ∃ T, ts[1]? = some T ∧ ty T = some t := by
  unfold at1 at h
  rw [← Array.getElem?_toList]
  split at h
  · rename_i _ T r hl
    rw [hl]; exact ⟨T, rfl, h⟩
  · cases h

theorem subI_some {α : Type} {xs ys : List α} {lo hi : Int} (h : subI xs lo hi = some ys) : 0 ≤ lo ∧ lo ≤ hi ∧ hi ≤ xs.length ∧ ys = (xs.take hi.toNat).drop lo.toNat := by
  unfold subI at h
  split at h
  · rename_i h0
    simp only [Option.some.injEq] at h
    exact ⟨h0.1, h0.2.1, h0.2.2, h.symm⟩
  · cases h
theorem subS_some {s u : ByteArray} {lo hi : Int} (h : subS s lo hi = some u) : 0 ≤ lo ∧ lo ≤ hi ∧ hi ≤ s.size ∧ u = s.extract lo.toNat hi.toNat := by
  unfold subS at h
  split at h
  · rename_i h0
    simp only [Option.some.injEq] at h
    exact ⟨h0.1, h0.2.1, h0.2.2, h.symm⟩
  · cases h

section
variable {c : Cx} (he : EnvOK c) (ht : TyOK c.P c.E.ty) {σ σ' : St} {a : Act} {w : World} {F : Nat → List Nat} {G : Nat → Value} (h : Sim c σ a w [] F G) {Q : Exit → Act → World → Prop} {o : Oper}
include he ht h

theorem op_len {cl : Call} (ho : o.op = .call cl) (hb : cl.callee = .builtin .len) {x : Operand} (hx : cl.args.toList = [x])
    (hr : (viewK c.E none x fun t a _ => match t, a with
      | .sl e, xs => chk (tyIs (at0 c.E.ty cl.argTypes) (.sl e)) (setD c.E o.dst (.own (.int .i64) (xs.length : Int) .own) .done)
      | .str, s => chk (tyIs (at0 c.E.ty cl.argTypes) .str) (setD c.E o.dst (.own (.int .i64) ((s : ByteArray).size : Int) .own) .done)
      | _, _ => .fail).run σ = some σ') : OpOK c σ' Q a w o := by
  obtain ⟨t, p, q, hr, _, _, d, cx, h1, h2⟩ := viewK_run he h hr
  have hargs := toList_one hx
  cases d with
  | zero => exact h2.elim
  | succ d =>
    cases t <;> try (simp [Mp.run] at hr; done)
    · obtain ⟨hty, hr⟩ := chk_run hr
      obtain ⟨T, e1, e2⟩ := at0_some (tyIs_eq hty)
      have hu := (ht _ _ e2).und
      obtain ⟨rfl, hm⟩ := h2
      have h1 : a.eval x = .string p := h1
      have hm : ByteArray.size p ≤ 9223372036854775807 := hm
      refine fin_plain he h (cs := [.int .i64 (ByteArray.size p : Int)]) ?_ (pv_int ?_) hr
      · simp [execOp, ho, resolve, hb, hargs, invoke, builtin, Builtin.len_, e1, h1, run_underlying hu, goInt, mkV]
      · simp [inR, Lit.wf, IntKind.min, IntKind.max, IntKind.signed, IntKind.bits]; omega
    · rename_i e
      obtain ⟨hty, hr⟩ := chk_run hr
      obtain ⟨T, e1, e2⟩ := at0_some (tyIs_eq hty)
      obtain ⟨Te, hu, _⟩ := (ht _ _ e2).und
      have key : ∃ A cap, a.eval x = .slice A (List.length p) cap ∧ List.length p ≤ maxLen := by
        rcases h2 with ⟨rfl, rfl⟩ | ⟨A, cap, rfl, _, k1, k2, _⟩
        · exact ⟨none, 0, h1, Nat.zero_le _⟩
        · exact ⟨some A, cap, h1, Nat.le_trans k1 k2⟩
      obtain ⟨A, cap, h1, hm⟩ := key
      have hm : List.length p ≤ 9223372036854775807 := hm
      refine fin_plain he h (cs := [.int .i64 (List.length p : Int)]) ?_ (pv_int ?_) hr
      · simp [execOp, ho, resolve, hb, hargs, invoke, builtin, Builtin.len_, e1, h1, run_underlying hu, goInt, mkV]
      · simp [inR, Lit.wf, IntKind.min, IntKind.max, IntKind.signed, IntKind.bits]; omega

omit ht in
theorem op_min {cl : Call} (ho : o.op = .call cl) (hb : cl.callee = .builtin .min) {x y : Operand} (hx : cl.args.toList = [x, y])
    (hr : (intK c.E x fun q m => intK c.E y fun q' n => chk (decide (q = q')) (setD c.E o.dst (.own (.int q) (min m n) .own) .done)).run σ = some σ') : OpOK c σ' Q a w o := by
  obtain ⟨q, m, hr, h1, h2⟩ := intK_run he h hr
  obtain ⟨q', n, hr, h3, h4⟩ := intK_run he h hr
  have hargs := toList_two hx
  obtain ⟨hq, hr2⟩ := chk_run hr
  obtain rfl := of_decide_eq_true hq
  have e : (if n < m then n else m) = min m n := by rw [Int.min_def]; split <;> split <;> omega
  refine fin_plain he h (cs := [.int q (min m n)]) ?_ (pv_int ?_) hr2
  · simp [execOp, ho, resolve, hb, hargs, invoke, builtin, Builtin.min_, Builtin.min2, h1, h3, mkV, e]
  · rw [Int.min_def]; split
    · exact h2
    · exact h4
omit ht in
theorem op_max {cl : Call} (ho : o.op = .call cl) (hb : cl.callee = .builtin .max) {x y : Operand} (hx : cl.args.toList = [x, y])
    (hr : (intK c.E x fun q m => intK c.E y fun q' n => chk (decide (q = q')) (setD c.E o.dst (.own (.int q) (max m n) .own) .done)).run σ = some σ') : OpOK c σ' Q a w o := by
  obtain ⟨q, m, hr, h1, h2⟩ := intK_run he h hr
  obtain ⟨q', n, hr, h3, h4⟩ := intK_run he h hr
  have hargs := toList_two hx
  obtain ⟨hq, hr2⟩ := chk_run hr
  obtain rfl := of_decide_eq_true hq
  have e : (if m < n then n else m) = max m n := by rw [Int.max_def]; split <;> split <;> omega
  refine fin_plain he h (cs := [.int q (max m n)]) ?_ (pv_int ?_) hr2
  · simp [execOp, ho, resolve, hb, hargs, invoke, builtin, Builtin.max_, Builtin.max2, h1, h3, mkV, e]
  · rw [Int.max_def]; split
    · exact h4
    · exact h2
end

theorem EL_take {α : Type} {R : α → List Value → List Nat → Prop} {sz : Nat} : ∀ (xs : List α) (cs : List Value) (f : List Nat) (n : Nat), EL R sz xs cs f → ∃ f1, List.Sublist f1 f ∧ EL R sz (xs.take n) cs f1
  | [], cs, f, n, h => ⟨[], List.nil_sublist _, by simp [EL]⟩
  | x :: xs, cs, f, 0, h => ⟨[], List.nil_sublist _, by simp [EL]⟩
  | x :: xs, cs, f, n + 1, h => by
    obtain ⟨f1, f2, rfl, h1, h2⟩ := h
    obtain ⟨f3, h3, h4⟩ := EL_take xs _ f2 n h2
    exact ⟨f1 ++ f3, List.Sublist.append (List.Sublist.refl _) h3, f1, f3, rfl, h1, h4⟩
theorem EL_drop {α : Type} {R : α → List Value → List Nat → Prop} {sz : Nat} : ∀ (xs : List α) (cs : List Value) (f : List Nat) (n : Nat), EL R sz xs cs f → ∃ f1, List.Sublist f1 f ∧ EL R sz (xs.drop n) (cs.drop (n * sz)) f1
  | [], cs, f, n, h => ⟨[], List.nil_sublist _, by simp [EL]⟩
  | x :: xs, cs, f, 0, h => ⟨f, List.Sublist.refl _, by simpa using h⟩
  | x :: xs, cs, f, n + 1, h => by
    obtain ⟨f1, f2, rfl, h1, h2⟩ := h
    obtain ⟨f3, h3, h4⟩ := EL_drop xs _ f2 n h2
    refine ⟨f3, h3.trans (List.sublist_append_right _ _), ?_⟩
    have e : (n + 1) * sz = sz + n * sz := by rw [Nat.add_mul]; omega
    rw [e, ← List.drop_drop]
    simpa using h4

/-- A part of a slice. -/
def subV (sz l h : Nat) : Value → Value
  | .slice a _ cap => .slice (if cap = l then a else a.map (·.add (l * sz))) (h - l) (cap - l)
  | v => v
def subC (sz l h : Nat) (cs : List Value) : List Value := cs.map (subV sz l h)

theorem RI_sub {w : World} {J : Nat → Prop} {d : Nat} {e : Ty} {xs : List (El e)} {cs : List Value} (h : RI w J d (.sl e) xs cs) {l n : Nat} (hl : l ≤ n) (hn : n ≤ xs.length) : RI w J d (.sl e) ((xs.take n).drop l) (subC (csz e) l n cs) := by
  cases d with
  | zero => exact h.elim
  | succ d =>
    rcases h with ⟨rfl, rfl⟩ | ⟨a, cap, rfl, h2, h3, h4, h5⟩
    · left
      simp at hn
      subst hn
      have : l = 0 := by omega
      subst this
      simp [subC, subV]
    · right
      have hlen : ((xs.take n).drop l).length = n - l := by simp; omega
      refine ⟨if cap = l then a else a.add (l * csz e), cap - l, ?_, ?_, by omega, by omega, ?_⟩
      · rw [hlen]
        simp only [subC, subV, List.map_cons, List.map_nil]
        split <;> rfl
      · split
        · exact fun hp => h2 (by rw [List.length_drop, List.length_take] at hp; omega)
        · rw [add_block]; exact fun hp => h2 (by rw [List.length_drop, List.length_take] at hp; omega)
      · intro i y hi
        rw [List.getElem?_drop, List.getElem?_take] at hi
        split at hi
        · obtain ⟨c, h6, h7, h8⟩ := h5 (l + i) y hi
          have : ¬ cap = l := by omega
          rw [if_neg this, add_add]
          refine ⟨c, h6, ?_, h8⟩
          rw [← Nat.add_mul]; exact h7
        · cases hi
theorem arr_sub {w : World} {b off cap len sz : Nat} {cur : Array Value} {et : TypeId} (h : Arr w b off cap len sz cur et) {l n : Nat} (hl : l ≤ n) (hn : n ≤ len) : Arr w b (if cap = l then off else off + l * sz) (cap - l) (n - l) sz cur et := by
  have h1 := h.fit
  have h2 := h.len
  refine ⟨h.obj, ?_, by omega, by have := h.cap; omega⟩
  split
  · have : cap - l = 0 := by omega
    rw [this]; omega
  · have : cap * sz = l * sz + (cap - l) * sz := by rw [← Nat.add_mul]; congr 1; omega
    omega
theorem sub_mk (b off cap l sz : Nat) : (if cap = l then some (⟨b, off, none⟩ : Addr) else (some (⟨b, off, none⟩ : Addr)).map (·.add (l * sz))) = some ⟨b, if cap = l then off else off + l * sz, none⟩ := by
  split
  · rfl
  · simp [add_mk]
theorem EL_sub {α : Type} {R : α → List Value → List Nat → Prop} {sz : Nat} {xs : List α} {cur : List Value} {off cap : Nat} {f : List Nat} (h : EL R sz xs (cur.drop off) f) {l n : Nat} (hl : l ≤ n) (hn : n ≤ xs.length) (hc : xs.length ≤ cap) :
    ∃ f1, List.Sublist f1 f ∧ EL R sz ((xs.take n).drop l) (cur.drop (if cap = l then off else off + l * sz)) f1 := by
  obtain ⟨f1, h1, h2⟩ := EL_take _ _ _ n h
  obtain ⟨f2, h3, h4⟩ := EL_drop _ _ _ l h2
  split
  · have : (xs.take n).drop l = [] := by apply List.drop_eq_nil_iff.2; simp; omega
    exact ⟨[], List.nil_sublist _, by rw [this]; simp [EL]⟩
  · refine ⟨f2, h3.trans h1, ?_⟩
    rwa [List.drop_drop] at h4
theorem TR_sub {w : World} {I : Bool → Nat → Prop} : ∀ {g : Tag} {e : Ty} {xs : List (El e)} {cs : List Value} {f : List Nat}, TR w I g (.sl e) xs cs f → aliveT (.sl e) g = true → ∀ {l n : Nat}, l ≤ n → n ≤ xs.length →
    ∃ f1, List.Sublist f1 f ∧ TR w I g (.sl e) ((xs.take n).drop l) (subC (csz e) l n cs) f1
  | .imm q, e, xs, cs, f, h, _, l, n, hl, hn => by
    simp only [TR] at h ⊢
    obtain ⟨⟨d, hd⟩, rfl⟩ := h
    exact ⟨[], List.Sublist.refl _, ⟨d, RI_sub hd hl hn⟩, rfl⟩
  | .dead, e, xs, cs, f, h, ha, l, n, hl, hn => by simp [aliveT] at ha
  | .st gs, e, xs, cs, f, h, _, l, n, hl, hn => by simp [TR] at h
  | .own, e, xs, cs, f, h, _, l, n, hl, hn => by
    simp only [TR] at h ⊢
    obtain ⟨d, hd⟩ := h
    cases d with
    | zero => exact hd.elim
    | succ d =>
      rcases hd with ⟨rfl, rfl, rfl⟩ | ⟨b, off, cap, cur, et, f', rfl, h2, rfl, h4⟩
      · simp at hn
        subst hn
        have : l = 0 := by omega
        subst this
        exact ⟨[], List.Sublist.refl _, d + 1, .inl ⟨by simp [subC, subV], by simp, rfl⟩⟩
      · obtain ⟨f1, h5, h6⟩ := EL_sub h4 hl hn h2.len
        have hlen : ((xs.take n).drop l).length = n - l := by simp; omega
        refine ⟨b :: f1, h5.cons_cons b, d + 1, .inr ⟨b, _, cap - l, cur, et, f1, ?_, by rw [hlen]; exact arr_sub h2 hl hn, rfl, h6⟩⟩
        rw [hlen]
        simp only [subC, subV, List.map_cons, List.map_nil, sub_mk]
  | .os g, e, xs, cs, f, h, _, l, n, hl, hn => by
    simp only [TR] at h ⊢
    obtain ⟨b, off, cap, cur, et, f', rfl, h2, rfl, h4⟩ := h
    obtain ⟨f1, h5, h6⟩ := EL_sub h4 hl hn h2.len
    have hlen : ((xs.take n).drop l).length = n - l := by simp; omega
    refine ⟨b :: f1, h5.cons_cons b, b, _, cap - l, cur, et, f1, ?_, by rw [hlen]; exact arr_sub h2 hl hn, rfl, h6⟩
    rw [hlen]
    simp only [subC, subV, List.map_cons, List.map_nil, sub_mk]

/-- bounds -/
structure Bnd (a : Act) (lo hi : Option Operand) (len : Nat) (l h : Int) : Prop where
  lo : (lo = none ∧ l = 0) ∨ ∃ x k, lo = some x ∧ a.eval x = .int k l
  hi : (hi = none ∧ h = len) ∨ ∃ x k, hi = some x ∧ a.eval x = .int k h
theorem bounds_run {c : Cx} (he : EnvOK c) {σ σ' : St} {a : Act} {w : World} {X : List Nat} {F : Nat → List Nat} {G : Nat → Value} (h : Sim c σ a w X F G) {lo hi : Option Operand} {len : Nat} {k : Int → Int → Mp} (hr : (sliceK.bounds c.E lo hi len k).run σ = some σ') :
    ∃ l n, Bnd a lo hi len l n ∧ (k l n).run σ = some σ' := by
  cases lo with
  | none =>
    cases hi with
    | none => exact ⟨0, len, ⟨.inl ⟨rfl, rfl⟩, .inl ⟨rfl, rfl⟩⟩, hr⟩
    | some y =>
      obtain ⟨q, n, hr, h1, _⟩ := intK_run he h hr
      exact ⟨0, n, ⟨.inl ⟨rfl, rfl⟩, .inr ⟨y, q, rfl, h1⟩⟩, hr⟩
  | some x =>
    cases hi with
    | none =>
      obtain ⟨q, n, hr, h1, _⟩ := intK_run he h hr
      exact ⟨n, len, ⟨.inr ⟨x, q, rfl, h1⟩, .inl ⟨rfl, rfl⟩⟩, hr⟩
    | some y =>
      obtain ⟨q, n, hr, h1, _⟩ := intK_run he h hr
      obtain ⟨q', n', hr, h2, _⟩ := intK_run he h hr
      exact ⟨n, n', ⟨.inr ⟨x, q, rfl, h1⟩, .inr ⟨y, q', rfl, h2⟩⟩, hr⟩
theorem sliceBounds_run {P : Program} {a : Act} {lo hi : Option Operand} {len cap : Nat} {l n : Int} (hb : Bnd a lo hi len l n) (h0 : 0 ≤ l) (h1 : l ≤ n) (h2 : n ≤ cap) (b : Bool) (w : World) (hlc : len ≤ cap) :
    (Instr.sliceBounds b len cap (lo.map a.eval) (hi.map a.eval) none).run P w = .ok (l.toNat, n.toNat, cap) w := by
  have hn : 0 ≤ n := by omega
  have e1 : ∀ (x : Operand) (k : IntKind) (code : BoundsCode), a.eval x = .int k n → (Instr.sliceBound (a.eval x) cap code).run P w = .ok n.toNat w := by
    intro x k code hx
    simp [Instr.sliceBound, hx, asIntOf, hn, h2]
  have e2 : ∀ (x : Operand) (k : IntKind) (code : BoundsCode), a.eval x = .int k l → (Instr.sliceBound (a.eval x) n.toNat code).run P w = .ok l.toNat w := by
    intro x k code hx
    have m1 : max n 0 = n := by omega
    simp [Instr.sliceBound, hx, asIntOf, h0, m1, h1]
  rcases hb.lo with ⟨rfl, rfl⟩ | ⟨x, k, rfl, hx⟩ <;> rcases hb.hi with ⟨rfl, rfl⟩ | ⟨y, k', rfl, hy⟩
  · simp [Instr.sliceBounds]
  · simp [Instr.sliceBounds, e1 y k' _ hy]
  · have := fun code => e2 x k code hx
    simp only [Int.toNat_natCast] at this
    simp [Instr.sliceBounds, this]
  · simp [Instr.sliceBounds, e1 y k' _ hy, e2 x k _ hx]
end Net
