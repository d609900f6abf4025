/- A walk by plain functions, part 4: that what a region of operations does is what a plain function says, for any program whose types are at hand. -/
import Derived.Test.YtoildogibnampaaGreatBaseC
import Derived.Laws.MakeOwn
import Derived.Great.BuildSlice

/- Slicing; parts of tuples; closures. -/
namespace Net
open Go
set_option linter.unusedVariables false
set_option linter.unusedSectionVars false

section
variable {c : Cx} (he : EnvOK c) (ht : TyOK c.P c.E.ty) {σ σ' : St} {a : Act} {w : World} {F : Nat → List Nat} {G : Nat → Value} (h : Sim c σ a w [] F G) {Q : Exit → Act → World → Prop} {o : Oper}
include he ht h

theorem slice_exec {T : Nat} {x : Operand} {lo hi : Option Operand} (ho : o.op = .slice T x lo hi none) {e : Ty} (hty : c.E.ty T = some (.sl e)) {J : Nat → Prop} {d : Nat} {xs : List (El e)} {cs : List Value} (h1 : a.eval x = mkV (.sl e) cs) (h2 : RI w J d (.sl e) xs cs) {l n : Int}
    (hb : Bnd a lo hi xs.length l n) (h3 : 0 ≤ l) (h4 : l ≤ n) (h5 : n ≤ xs.length) : (execOp a.eval o).run c.P w = .ok (.value (mkV (.sl e) (subC (csz e) l.toNat n.toNat cs))) w := by
  obtain ⟨Te, hu, hte⟩ := (ht _ _ hty).und
  have hsz := (ht _ _ hte).sizeOf (P := c.P) w
  cases d with
  | zero => exact h2.elim
  | succ d =>
    rcases h2 with ⟨rfl, rfl⟩ | ⟨A, cap, rfl, k1, k2, k3, _⟩
    · have hs := sliceBounds_run (P := c.P) (cap := 0) hb h3 h4 h5 true w (Nat.le_refl _)
      have h1 : a.eval x = .slice none 0 0 := h1
      simp only [List.length_nil] at hs
      simp only [execOp, ho, Instr.sliceAt, Sem.run_bind, run_underlying hu, Result.andThen_ok, Option.map_none, h1, Instr.slice, hs, hsz]
      simp [mkV, subC, subV]
    · have hs := sliceBounds_run (P := c.P) (cap := cap) hb h3 h4 (by omega) true w k2
      have h1 : a.eval x = .slice (some A) xs.length cap := h1
      simp only [execOp, ho, Instr.sliceAt, Sem.run_bind, run_underlying hu, Result.andThen_ok, Option.map_none, h1, Instr.slice, hs, hsz]
      simp [mkV, subC, subV]

theorem op_slice {T : Nat} {x : Operand} {lo hi mx : Option Operand} (ho : o.op = .slice T x lo hi mx) (hr : (sliceK c.E (c.E.ty T) x lo hi mx o.dst .done).run σ = some σ') : OpOK c σ' Q a w o := by
  cases mx with
  | some m => simp [sliceK, Mp.run] at hr
  | none =>
    simp only [sliceK] at hr
    obtain ⟨av, s, n, hop, hr⟩ := rd_run he h hr
    have hsv := hop.sv
    have view : ∀ (e : Ty) (xs : List (El e)) (q : VS), c.E.ty T = some (.sl e) → srcPast σ q → (∃ d cs, a.eval x = mkV (.sl e) cs ∧ RI w (srcJ c F q) d (.sl e) xs cs) →
        (sliceK.bounds c.E lo hi xs.length fun l h => .bnd (subI xs l h) fun ys => setD c.E o.dst (.vw (.sl e) ys q) .done).run σ = some σ' → OpOK c σ' Q a w o := by
      rintro e xs q hty hq ⟨d, cs, h1, h2⟩ hr
      obtain ⟨l, n, hb, hr⟩ := bounds_run he h hr
      obtain ⟨ys, hys, hr⟩ := bnd_run hr
      obtain ⟨k1, k2, k3, rfl⟩ := subI_some hys
      exact fin_ptr h (slice_exec he ht h ho hty h1 h2 hb k1 k2 k3) hr ⟨hq, fun _ => ⟨d, _, rfl, RI_sub h2 (by omega) (by omega)⟩⟩
    have alias : ∀ (e : Ty) (xs : List (El e)) (r m : Nat) (up : Up), c.E.ty T = some (.sl e) → m = (σ r).2 → (∃ cs tr xr gr A rc fr, a.eval x = mkV (.sl e) cs ∧ Root c.I w (val c a G r) (σ r).1 (F r) tr xr gr A rc fr ∧ AlF c.I w (.sl e) xs cs (fun b => c.Ip b ∨ b ∈ F r) tr xr gr rc fr (stepsOf up)) →
        (sliceK.bounds c.E lo hi xs.length fun l h => .bnd (subI xs l h) fun ys => setD c.E o.dst (.al (.sl e) ys r m up false) .done).run σ = some σ' → OpOK c σ' Q a w o := by
      rintro e xs r m up hty hm ⟨cs, tr, xr, gr, A, rc, fr, h1, h2, h3⟩ hr
      obtain ⟨l, n, hb, hr⟩ := bounds_run he h hr
      obtain ⟨ys, hys, hr⟩ := bnd_run hr
      obtain ⟨k1, k2, k3, rfl⟩ := subI_some hys
      obtain ⟨d, hd⟩ := h3.view
      refine fin_ptr h (slice_exec he ht h ho hty h1 hd hb k1 k2 k3) hr ⟨Nat.le_of_eq hm, fun _ => ⟨_, tr, xr, gr, A, rc, fr, rfl, h2, ⟨⟨d, RI_sub hd (by omega) (by omega)⟩, ?_, ?_⟩, by simp⟩⟩
      · intro q hq
        obtain ⟨d', hd'⟩ := h3.imm q hq
        exact ⟨d', RI_sub hd' (by omega) (by omega)⟩
      · intro gk hal hk
        obtain ⟨fa, rest, m1, m2, m3, m4⟩ := h3.take gk hal hk
        obtain ⟨f1, m5, m6⟩ := TR_sub m3 hal (l := l.toNat) (n := n.toNat) (by omega) (by omega)
        refine ⟨f1, rest, ?_, ?_, m6, m4⟩
        · exact (List.Sublist.append m5 (List.Sublist.refl rest)).nodup m1
        · intro b hb
          rcases List.mem_append.1 hb with hb | hb
          · exact m2 b (by simp [m5.subset hb])
          · exact m2 b (by simp [hb])
    cases av with
    | own t xs g =>
      cases t with
      | sl e =>
        cases s with
        | none => simp [Mp.run] at hr
        | some s =>
          obtain ⟨hc, hr⟩ := chk_run hr
          simp only [Bool.and_eq_true] at hc
          obtain ⟨e1, e2, e3, _⟩ := hop.at_ s rfl
          have hal := alias_own h e1.symm e2 hc.1 []
          obtain ⟨cs, tr, xr, gr, A, rc, fr, m1, m2, m3, m4⟩ := hal.2 e2
          exact alias e xs s n [] (tyIs_eq hc.2) e2 ⟨cs, tr, xr, gr, A, rc, fr, e3 ▸ m1, m2, m3⟩ hr
      | str =>
        simp only at hr
        obtain ⟨hc, hr⟩ := chk_run hr
        simp only [Bool.and_eq_true] at hc
        have hu := (ht _ _ (tyIs_eq hc.2)).und
        obtain ⟨l, n, hb, hr⟩ := bounds_run he h hr
        obtain ⟨ys, hys, hr⟩ := bnd_run hr
        obtain ⟨k1, k2, k3, rfl⟩ := subS_some hys
        obtain ⟨cs, m1, m2⟩ := hsv
        obtain ⟨_, hpv⟩ := TR_plain _ _ _ _ _ rfl hc.1 m2
        obtain ⟨d, hd⟩ := hpv.RI w c.Ip
        cases d with
        | zero => exact hd.elim
        | succ d =>
          obtain ⟨rfl, hsz⟩ := hd
          have hs := sliceBounds_run (P := c.P) (cap := ByteArray.size xs) hb k1 k2 k3 false w (Nat.le_refl _)
          have m1 : a.eval x = .string xs := m1
          refine fin_plain he h (cs := [.string (ByteArray.extract xs l.toNat n.toNat)]) ?_ (pv_str ?_) hr
          · simp [execOp, ho, Instr.sliceAt, run_underlying hu, m1, Instr.slice, hs, mkV]
          · have hz : ByteArray.size xs ≤ maxLen := hsz
            simp only [ByteArray.size_extract]; omega
      | _ => simp [Mp.run] at hr
    | al t xs r m up ex =>
      cases t with
      | sl e =>
        simp only [Mp.run] at hr
        obtain ⟨hc, hr⟩ := chk_run hr
        simp only [Bool.and_eq_true] at hc
        have hm := Nat.eq_of_beq_eq_true hc.1
        obtain ⟨cs, tr, xr, gr, A, rc, fr, m1, m2, m3, m4⟩ := hsv.2 hm
        exact alias e xs r m up (tyIs_eq hc.2) hm ⟨cs, tr, xr, gr, A, rc, fr, m1, m2, m3⟩ hr
      | _ => simp [Mp.run] at hr
    | vw t xs q =>
      cases t with
      | sl e =>
        obtain ⟨hp, hl⟩ := hsv
        cases q with
        | slot r m =>
          simp only [Mp.run] at hr
          obtain ⟨hc, hr⟩ := chk_run hr
          simp only [Bool.and_eq_true] at hc
          exact view e xs _ (tyIs_eq hc.2) hp (hl (Nat.eq_of_beq_eq_true hc.1)) hr
        | ip =>
          obtain ⟨hc, hr⟩ := chk_run hr
          exact view e xs _ (tyIs_eq hc) hp (hl trivial) hr
        | k =>
          obtain ⟨hc, hr⟩ := chk_run hr
          exact view e xs _ (tyIs_eq hc) hp (hl trivial) hr
      | _ => simp [Mp.run] at hr
    | _ => simp [Mp.run] at hr
end
end Net

/- Parts of tuples; closures. -/
namespace Net
open Go
set_option linter.unusedVariables false
set_option linter.unusedSectionVars false

theorem capB_run {c : Cx} (he : EnvOK c) {σ σ' : St} {a : Act} {w : World} {X : List Nat} {F : Nat → List Nat} {G : Nat → Value} (h : Sim c σ a w X F G) : ∀ (ps : List PK) (os : List Operand) (k : Args ps → List (Nat × Nat) → Mp), (capB c.E ps os k).run σ = some σ' →
    ∃ z q, (k z q).run σ = some σ' ∧ (∀ p ∈ q, p.2 = (σ p.1).2) ∧ ∀ (w' : World), (∀ b, (∃ p ∈ q, b ∈ F p.1) ∨ c.Ip b → w'.heap[b]? = w.heap[b]?) → w.heap.size ≤ w'.heap.size → ArgsOK c.P w' (fun b => b < w'.heap.size) (fun _ => False) ps z (os.map a.eval) []
  | [], [], k, hr => ⟨(), [], hr, by simp, fun w' _ _ => ⟨rfl, rfl⟩⟩
  | .cp t :: ps, o :: os, k, hr => by
    obtain ⟨av, s, n, hop, hr⟩ := rd_run he h hr
    have hsv := hop.sv
    cases av with
    | box u x g =>
      cases s with
      | none => simp [Mp.run] at hr
      | some s =>
        simp only at hr
        cases hc : castE u t x with
        | none => simp [hc, Mp.run] at hr
        | some y =>
          simp only [hc] at hr
          have := castE_eq hc
          simp only [Sigma.mk.injEq] at this
          obtain ⟨rfl, e⟩ := this
          have e := eq_of_heq e
          subst e
          obtain ⟨hal, hr⟩ := chk_run hr
          obtain ⟨z, q, hr, hq, hA⟩ := capB_run he h ps os _ hr
          obtain ⟨h1, h2, h3, _⟩ := hop.at_ s rfl
          obtain ⟨b, cs, f', k1, k2, k3, k4⟩ := hsv
          have k4 : F s = b :: f' := k4
          refine ⟨(x, z), (s, n) :: q, hr, ?_, ?_⟩
          · intro p hp
            rcases List.mem_cons.1 hp with rfl | hp
            · exact h2
            · exact hq p hp
          · intro w' hw hsz
            obtain ⟨d, hd⟩ := TR_view (J := fun b => (b ∈ F s ∨ c.Ip b) ∧ b < w.heap.size) (fun k b hb => ⟨.inr (h.I_ip k b hb), Nat.lt_of_lt_of_le (h.I_ip k b hb).1 h.grow⟩) _ _ _ _ _ hal (fun b hb => ⟨.inl (by rw [k4]; simp [hb]), (h.rng s b (by rw [k4]; simp [hb])).1⟩) k3
            have hb := h.rng s b (by rw [k4]; simp)
            refine ⟨d, ⟨b, 0, none⟩, cs, os.map a.eval, by rw [List.map_cons, k1], isBox_loc (isBox_same (hw b (.inl ⟨(s, n), by simp, by show b ∈ F s; rw [k4]; simp⟩)) k2), Nat.lt_of_lt_of_le hb.1 hsz, ?_, ?_⟩
            · refine RI_same (fun b hb => Nat.lt_of_lt_of_le hb.2 hsz) (fun b hb => hw b ?_) _ _ _ _ hd
              rcases hb.1 with hb | hb
              · exact .inl ⟨(s, n), by simp, hb⟩
              · exact .inr hb
            · refine hA w' (fun b hb => hw b ?_) hsz
              rcases hb with ⟨p, hp, hb⟩ | hb
              · exact .inl ⟨p, by simp [hp], hb⟩
              · exact .inr hb
    | _ => simp [Mp.run] at hr
  | [], _ :: _, k, hr | .cp _ :: _, [], k, hr | .val _ _ :: _, [], k, hr | .val _ _ :: _, _ :: _, k, hr | .io _ _ :: _, [], k, hr | .io _ _ :: _, _ :: _, k, hr | .ios _ :: _, [], k, hr | .ios _ :: _, _ :: _, k, hr | .fn _ _ :: _, [], k, hr | .fn _ _ :: _, _ :: _, k, hr => by
    simp [capB, Mp.run] at hr
theorem capK_run {c : Cx} (he : EnvOK c) {σ σ' : St} {a : Act} {w : World} {X : List Nat} {F : Nat → List Nat} {G : Nat → Value} (h : Sim c σ a w X F G) : ∀ (ps : List PK) (os : List Operand) (k : (as : List Ty) → (HL as → Args ps) → List (Nat × Nat) → Mp), (capK c.E ps os k).run σ = some σ' →
    ∃ as cf q, (k as cf q).run σ = some σ' ∧ (∀ p ∈ q, p.2 = (σ p.1).2) ∧ ∀ (w' : World) (vs : List Value) (x : HL as), (∀ b, (∃ p ∈ q, b ∈ F p.1) ∨ c.Ip b → w'.heap[b]? = w.heap[b]?) → w.heap.size ≤ w'.heap.size → Vals w' (fun b => b < w'.heap.size) as x vs → ArgsOK c.P w' (fun b => b < w'.heap.size) (fun _ => False) ps (cf x) (vs ++ os.map a.eval) [] := by
  intro ps
  induction ps with
  | nil =>
    intro os k hr
    obtain ⟨z, q, hr, hq, hA⟩ := capB_run he h [] os _ hr
    refine ⟨[], fun _ => z, q, hr, hq, fun w' vs x hw hs hv => ?_⟩
    have : vs = [] := hv
    subst this
    exact hA w' hw hs
  | cons p ps ih =>
    intro os k hr
    have base : (capB c.E (p :: ps) os fun z q => k [] (fun _ => z) q).run σ = some σ' → ∃ as cf q, (k as cf q).run σ = some σ' ∧ (∀ p ∈ q, p.2 = (σ p.1).2) ∧ ∀ (w' : World) (vs : List Value) (x : HL as), (∀ b, (∃ p ∈ q, b ∈ F p.1) ∨ c.Ip b → w'.heap[b]? = w.heap[b]?) → w.heap.size ≤ w'.heap.size → Vals w' (fun b => b < w'.heap.size) as x vs → ArgsOK c.P w' (fun b => b < w'.heap.size) (fun _ => False) (p :: ps) (cf x) (vs ++ os.map a.eval) [] := by
      intro hr
      obtain ⟨z, q, hr, hq, hA⟩ := capB_run he h (p :: ps) os _ hr
      refine ⟨[], fun _ => z, q, hr, hq, fun w' vs x hw hs hv => ?_⟩
      have : vs = [] := hv
      subst this
      exact hA w' hw hs
    cases p with
    | val t esc =>
      cases esc with
      | true => exact base hr
      | false =>
        obtain ⟨as, cf, q, hr, hq, hA⟩ := ih os _ hr
        refine ⟨t :: as, fun x => (x.1, cf x.2), q, hr, hq, fun w' vs x hw hs hv => ?_⟩
        obtain ⟨d, cs, vs', rfl, h1, h2⟩ := hv
        exact ⟨d, cs, _, rfl, h1, hA w' vs' x.2 hw hs h2⟩
    | cp t => exact base hr
    | io t g => exact base hr
    | ios t => exact base hr
    | fn as r => exact base hr

section
variable {c : Cx} (he : EnvOK c) {σ σ' : St} {a : Act} {w : World} {F : Nat → List Nat} {G : Nat → Value} (h : Sim c σ a w [] F G) {Q : Exit → Act → World → Prop} {o : Oper}
include he h

theorem op_makeFunc {f : Nat} {cs : Array Operand} (ho : o.op = .makeFunc (.func f) #[] cs) (hr : (makeFuncK c.E f cs.toList o.dst .done).run σ = some σ') : OpOK c σ' Q a w o := by
  unfold makeFuncK at hr
  split at hr
  · rename_i ps r g0 Ot Fn outF hsg
    obtain ⟨as, cf, q, hr, hq, hA⟩ := capK_run he h _ _ _ hr
    obtain ⟨hp, hr⟩ := chk_run hr
    refine fin_ptr h (v := .func (.func f) #[] (cs.map a.eval)) (by simp [execOp, ho, Instr.makeFunc]) hr ?_
    refine ⟨fun z hz => Nat.le_of_eq (hq z hz), fun _ => ⟨hp, ?_⟩⟩
    obtain ⟨hcall, hs⟩ := he.sg _ _ hsg
    refine ⟨f, cs.map a.eval, rfl, hcall, fun w' hw hsz vs x y hv hy => ?_⟩
    simp only [Option.map_eq_some_iff] at hy
    obtain ⟨o', ho', rfl⟩ := hy
    have hargs := hA w' vs x (fun b hb => hw b (by rcases hb with hb | hb; exact .inr hb; exact .inl hb)) hsz hv
    have := hs w' (fun b => b < w'.heap.size) (fun _ => False) (cf x) _ [] o' (by simp) (fun b hb => ⟨hb, by simp⟩) (by simp) (by simp) hargs ho'
    have e : (vs ++ cs.toList.map a.eval).toArray = vs.toArray ++ cs.map a.eval := by
      apply Array.toList_inj.1; simp
    rw [e] at this
    refine this.mono ?_
    rintro e w'' ⟨v, rfl, ho⟩
    obtain ⟨⟨rv, fr, fio, rfl, h1, h2, h3, h4⟩, h5⟩ := ho
    obtain ⟨cs, g, vs', fp', rfl, rfl, h6, h7⟩ := h1
    obtain ⟨rfl, rfl⟩ := h7
    have hal := ((he.noIp _ _ hsg).1 (.v r g0) (by simp)).2
    obtain ⟨rfl, hpv⟩ := TR_plain _ _ _ _ _ hp hal h6
    exact ⟨cs, rfl, hpv, h5⟩
  · simp [Mp.run] at hr

theorem op_extract {x : Operand} {i : Nat} (ho : o.op = .extract x i) (hr : (rd c.E none x fun v _ _ => (match v with
    | .tup s n m => .get (s + 3) fun _ m' => chk (Nat.beq m m' && Nat.blt i n) (.get (s + i) fun u n' => takeB u (some (s + i)) n' fun t y g => setD c.E o.dst (mkAV t y g) .done)
    | _ => .fail)).run σ = some σ') : OpOK c σ' Q a w o := by
  obtain ⟨av, s, n, hop, hr⟩ := rd_run he h hr
  have hsv := hop.sv
  cases av with
  | tup s n m =>
    simp only [Mp.run] at hr
    obtain ⟨hc, hr⟩ := chk_run hr
    simp only [Bool.and_eq_true, Nat.blt_eq] at hc
    simp only [Mp.run] at hr
    obtain ⟨_, hk4, hnt, hl⟩ := hsv
    obtain ⟨vs, h1, h2⟩ := hl (Nat.eq_of_beq_eq_true hc.1)
    have hv : val c a G (s + i) = G (s + i) := by
      simp only [val]; rw [if_neg (by omega)]
    obtain ⟨t, y, g, σ1, F1, f, cs, hr, k1, k2, k3, k4, k5⟩ := takeB_run (s := some (s + i)) (v := G (s + i)) h (by rw [← hv]; exact h.slot (s + i)) (by rintro s' hs; cases hs; exact ⟨rfl, rfl⟩) hr
    have hx : (execOp a.eval o).run c.P w = .ok (.value (mkV t cs)) w := by
      simp [execOp, ho, h1, Instr.extract, h2 i hc.2, k3]
    refine OpOK.value hx ?_
    obtain ⟨F', h'⟩ := fin_set (f := f) k1 hr (Frm.refl _ _) (List.nodup_append.1 k1.xnodup).1 (fun b hb => ⟨(k1.xrng b (by simp [hb])).1, .inl (by simp [hb])⟩) (mkAV_ok k4 k5)
    exact ⟨F', G, h'⟩
  | _ => simp [Mp.run] at hr
end
end Net

/- Slices that are made and that grow. -/
namespace Net
open Go
set_option linter.unusedVariables false
set_option linter.unusedSectionVars false

theorem EL_app {α : Type} {R : α → List Value → List Nat → Prop} {sz : Nat} : ∀ (xs ys : List α) (cs : List Value) (f g : List Nat), EL R sz xs cs f → EL R sz ys (cs.drop (xs.length * sz)) g → EL R sz (xs ++ ys) cs (f ++ g)
  | [], ys, cs, f, g, h, h2 => by
    have : f = [] := h
    subst this
    simpa using h2
  | x :: xs, ys, cs, f, g, h, h2 => by
    obtain ⟨f1, f2, rfl, h3, h4⟩ := h
    refine ⟨f1, f2 ++ g, by simp, h3, EL_app xs ys _ f2 g h4 ?_⟩
    rw [List.drop_drop]
    have : (xs.length + 1) * sz = sz + xs.length * sz := by rw [Nat.add_mul]; omega
    rw [List.length_cons, this] at h2
    exact h2
theorem EL_ext {α : Type} {R : α → List Value → List Nat → Prop} {sz : Nat} : ∀ (xs : List α) (cs ds : List Value) (f : List Nat), (∀ k, k < xs.length * sz → cs[k]? = ds[k]?) → EL R sz xs cs f → EL R sz xs ds f
  | [], cs, ds, f, _, h => h
  | x :: xs, cs, ds, f, hk, h => by
    obtain ⟨f1, f2, rfl, h3, h4⟩ := h
    have hs : (xs.length + 1) * sz = sz + xs.length * sz := by rw [Nat.add_mul]; omega
    rw [List.length_cons, hs] at hk
    refine ⟨f1, f2, rfl, ?_, EL_ext xs _ _ f2 ?_ h4⟩
    · have : ds.take sz = cs.take sz := by
        apply List.ext_getElem?
        intro k
        rw [List.getElem?_take, List.getElem?_take]
        split
        · exact (hk k (by omega)).symm
        · rfl
      rw [this]; exact h3
    · intro k hlt
      rw [List.getElem?_drop, List.getElem?_drop]
      exact hk _ (by omega)
theorem EL_of_get {α : Type} {R : α → List Value → List Nat → Prop} {sz : Nat} : ∀ (xs : List α) (cs : List Value), (∀ i y, xs[i]? = some y → R y ((cs.drop (i * sz)).take sz) []) → EL R sz xs cs []
  | [], cs, h => rfl
  | x :: xs, cs, h => by
    refine ⟨[], [], rfl, by simpa using h 0 x rfl, EL_of_get xs _ (fun i y hi => ?_)⟩
    have := h (i + 1) y (by simpa using hi)
    rw [List.drop_drop]
    have e : (i + 1) * sz = sz + i * sz := by rw [Nat.add_mul]; omega
    rwa [e] at this

theorem locA_cat {w : World} {a : Addr} {c d : List Value} (h : locA w a c) (k : locA w (a.add c.length) d) : locA w a (c ++ d) := by
  intro j v hj
  rcases Nat.lt_or_ge j c.length with hl | hl
  · rw [List.getElem?_append_left hl] at hj; exact h j v hj
  · rw [List.getElem?_append_right hl] at hj
    have := k _ v hj
    rw [add_add] at this
    have e : c.length + (j - c.length) = j := by omega
    rwa [e] at this
theorem locA_nil {w : World} {a : Addr} : locA w a [] := by intro j v hj; simp at hj
/-- the cells of a row of plain values -/
theorem plain_cells {w : World} {J : Nat → Prop} {d : Nat} {e : Ty} (hp : plainT e = true) : ∀ (xs : List (El e)) (a : Addr), (∀ (i : Nat) (y : El e), xs[i]? = some y → ∃ c, c.length = csz e ∧ locA w (a.add (i * csz e)) c ∧ RI w J d e y c) →
    ∃ news, news.length = xs.length * csz e ∧ locA w a news ∧ (∀ v ∈ news, v.oneCell' = true) ∧ ∀ w', EL (RO w' d e) (csz e) xs news []
  | [], a, _ => ⟨[], by simp, locA_nil, by simp, fun _ => rfl⟩
  | x :: xs, a, h => by
    obtain ⟨c, h1, h2, h3⟩ := h 0 x rfl
    obtain ⟨news, h4, h5, h6, h7⟩ := plain_cells hp xs (a.add (csz e)) (fun i y hi => by
      obtain ⟨c, k1, k2, k3⟩ := h (i + 1) y (by simpa using hi)
      refine ⟨c, k1, ?_, k3⟩
      rw [add_add]
      have e : (i + 1) * csz e = csz e + i * csz e := by rw [Nat.add_mul]; omega
      rwa [e] at k2)
    have h2' : locA w a c := by simpa [Addr.add] using h2
    refine ⟨c ++ news, ?_, locA_cat h2' (by rw [h1]; exact h5), ?_, ?_⟩
    · simp [h1, h4, Nat.add_mul]; omega
    · intro v hv
      rcases List.mem_append.1 hv with hv | hv
      · exact oneCells _ _ _ _ h3 v hv
      · exact h6 v hv
    · intro w'
      refine ⟨[], [], rfl, ?_, ?_⟩
      · rw [← h1, List.take_left]; exact plain_RI _ _ _ _ hp h3
      · rw [← h1, List.drop_left]; rw [h1]; exact h7 w'

theorem RO_one {w : World} {d : Nat} {t : Ty} {x : El t} {cs : List Value} {f : List Nat} (h : RO w d t x cs f) : ∀ v ∈ cs, v.oneCell' = true := oneCells _ _ _ _ (RO_view (J := fun _ => True) _ _ _ _ _ (by simp) h)
theorem EL_one {w : World} {d : Nat} {e : Ty} : ∀ (xs : List (El e)) (cs : List Value) (f : List Nat), EL (RO w d e) (csz e) xs cs f → (xs.length * csz e ≤ cs.length) ∧ ∀ v ∈ cs.take (xs.length * csz e), v.oneCell' = true
  | [], cs, f, _ => by simp
  | x :: xs, cs, f, h => by
    obtain ⟨f1, f2, rfl, h3, h4⟩ := h
    obtain ⟨h5, h6⟩ := EL_one xs _ _ h4
    have hl := RO_len _ _ _ _ _ h3
    have hs : (xs.length + 1) * csz e = csz e + xs.length * csz e := by rw [Nat.add_mul]; omega
    rw [List.length_cons, hs]
    simp only [List.length_take, List.length_drop] at hl h5
    refine ⟨by omega, fun v hv => ?_⟩
    rw [List.take_add] at hv
    rcases List.mem_append.1 hv with hv | hv
    · exact RO_one h3 v hv
    · exact h6 v hv

/-- What is appended: its cells, wherever they lie. -/
structure App (w : World) (d : Nat) (e : Ty) (ys : List (El e)) (v : Value) (news : List Value) (fy : List Nat) : Prop where
  is : (v = .slice none 0 0 ∧ ys = []) ∨ ∃ a cap, v = .slice (some a) ys.length cap ∧ locA w a news
  len : news.length = ys.length * csz e
  one : ∀ v ∈ news, v.oneCell' = true
  el : EL (RO w d e) (csz e) ys news fy
theorem App.of_RI {w : World} {J : Nat → Prop} {d : Nat} {e : Ty} {ys : List (El e)} {cs : List Value} (hp : plainT e = true) (h : RI w J d (.sl e) ys cs) : ∃ d' news, App w d' e ys (mkV (.sl e) cs) news [] := by
  cases d with
  | zero => exact h.elim
  | succ d =>
    rcases h with ⟨rfl, rfl⟩ | ⟨a, cap, rfl, h2, h3, h4, h5⟩
    · exact ⟨d, [], .inl ⟨rfl, rfl⟩, by simp, by simp, rfl⟩
    · obtain ⟨news, k1, k2, k3, k4⟩ := plain_cells hp ys a h5
      exact ⟨d, news, .inr ⟨a, cap, rfl, k2⟩, k1, k3, k4 w⟩
theorem App.of_RO {w : World} {d : Nat} {e : Ty} {ys : List (El e)} {cs : List Value} {f : List Nat} (h : RO w (d + 1) (.sl e) ys cs f) : ∃ news fy, App w d e ys (mkV (.sl e) cs) news fy ∧ List.Sublist fy f := by
  rcases h with ⟨rfl, rfl, rfl⟩ | ⟨b, off, cap, cur, et, f', rfl, h2, rfl, h4⟩
  · exact ⟨[], [], ⟨.inl ⟨rfl, rfl⟩, by simp, by simp, rfl⟩, List.Sublist.refl _⟩
  · obtain ⟨k1, k2⟩ := EL_one _ _ _ h4
    refine ⟨(cur.toList.drop off).take (ys.length * csz e), f', ⟨.inr ⟨⟨b, off, none⟩, cap, rfl, locA_take _ (arr_loc h2)⟩, ?_, k2, EL_ext _ _ _ _ ?_ h4⟩, List.sublist_cons_self _ _⟩
    · rw [List.length_take]; omega
    · intro k hk
      rw [List.getElem?_take, if_pos hk]
end Net

/- append; make. -/
namespace Net
open Go
set_option linter.unusedVariables false
set_option linter.unusedSectionVars false

theorem append_tys {P : Program} {tys : Array Nat} {T0 T1 E0 E1 : Nat} (h0 : tys[0]? = some T0) (h1 : tys[1]? = some T1) (u0 : P.underlying T0 = some (.slice E0)) (u1 : P.underlying T1 = some (.slice E1)) (ty : Nat) (x y : Value) (w : World) :
    (Builtin.append_ tys ty #[x, y]).run P w = (Builtin.append_ #[T0, T0] ty #[x, y]).run P w := by
  simp only [Builtin.append_, h0, h1, Sem.run_bind, run_underlying u0, Result.andThen_ok, List.getElem?_toArray, List.getElem?_cons_zero, List.getElem?_cons_succ]
  cases x with
  | slice base sLen sCap =>
    simp only [Sem.run_bind]
    generalize (Go.sizeOf E0).run P w = r
    cases r with
    | ok v w1 => simp only [Result.andThen_ok, run_underlying u0, run_underlying u1]
    | halt v w1 => rfl
  | _ => rfl

/-- the run of append, where it grows in place -/
theorem append_room {P : Program} {w : World} {t ty e : Nat} {i : TypeInfo} (hu : P.underlying t = some (.slice e)) (hi : P.info? e = some i) {g o sLen sCap : Nat} {cur : Array Value} {et : Nat} (hg : w.heap[g]? = some (.cells cur et (0, 0)))
    {a : Addr} {m c : Nat} {news : List Value} (hl : news.length = m * i.size) (hnews : locA w a news) (h1 : ∀ u ∈ news, u.oneCell' = true) (hroom : sLen + m ≤ sCap) (hfit : o + sLen * i.size + news.length ≤ cur.size) :
    (Builtin.append_ #[t, t] ty #[.slice (some ⟨g, o, none⟩) sLen sCap, .slice (some a) m c]).run P w = .ok (.slice (some ⟨g, o, none⟩) (sLen + m) sCap) (w.setRow g (splice cur (o + sLen * i.size) news)) := by
  have hf := run_firstCells_some (P := P) w i.size m a m c news hl hnews
  have hst := run_storeCells_at P g (o + sLen * i.size) et news 0 cur w hg (by simpa using hfit) h1
  simp only [Nat.add_zero] at hst
  simp [Builtin.append_, run_underlying hu, Go.sizeOf, typeInfo, hi, Builtin.lenOf, hroom, hf, add_mk, hst, splice]

theorem drew_alloc_frm (w : World) (ob : Obj) (X : List Nat) : Frm w (w.drew.alloc ob) X :=
  ⟨rfl, rfl, rfl, by rw [World.size_alloc]; exact Nat.le_succ _, fun b hb _ => alloc_old w.drew ob b hb⟩

/-- A new array of a row of values and room behind it. -/
theorem new_row {w : World} {d : Nat} {e : Ty} {zs : List (El e)} {cells : List Value} {f : List Nat} {cap et : Nat} {rest : Array Value} (hl : cells.length = zs.length * csz e) (hel : EL (RO w d e) (csz e) zs cells f) (hf : ∀ b ∈ f, b < w.heap.size)
    (hcap : zs.length ≤ cap) (hmax : cap ≤ maxLen) (hrest : rest.size = (cap - zs.length) * csz e) :
    RO (w.drew.alloc (.cells (cells.toArray ++ rest) et)) (d + 1) (.sl e) zs [.slice (some ⟨w.heap.size, 0, none⟩) zs.length cap] (w.heap.size :: f) := by
  refine .inr ⟨w.heap.size, 0, cap, _, et, f, rfl, ⟨alloc_new w.drew _, ?_, hcap, hmax⟩, rfl, ?_⟩
  · simp only [Array.size_append, List.size_toArray, hl, hrest]
    rw [← Nat.add_mul, Nat.zero_add]
    have : zs.length + (cap - zs.length) = cap := by omega
    rw [this]; exact Nat.le_refl _
  · have h1 : EL (RO w d e) (csz e) zs ((cells.toArray ++ rest).toList.drop 0) f := by
      refine EL_ext _ _ _ _ (fun k hk => ?_) hel
      simp only [List.drop_zero, Array.toList_append]
      rw [List.getElem?_append_left (by rw [hl]; exact hk)]
    refine EL_mono (R := RO w d e) _ _ _ (fun y c k hk hh => RO_same (w := w) _ _ _ _ _ (fun b hb => alloc_old w.drew _ b (hf b (hk b hb))) hh) h1

theorem append_run {P : Program} {ty : Nat → Option Ty} (hT : TyOK P ty) {tys : Array Nat} {T0 T1 ot : Nat} {e : Ty} (h0 : tys[0]? = some T0) (h1 : tys[1]? = some T1) (e0 : ty T0 = some (.sl e)) (e1 : ty T1 = some (.sl e)) {w : World} {d : Nat} {xs ys : List (El e)} {cx news : List Value} {v : Value} {fx fy : List Nat}
    (hx : RO w (d + 1) (.sl e) xs cx fx) (hy : App w d e ys v news fy) (hn : (fx ++ fy).Nodup) (hlt : ∀ b ∈ fx ++ fy, b < w.heap.size) (hroom : xs.length + ys.length ≤ room) :
    ∃ w' cs f, (Builtin.append_ tys ot #[mkV (.sl e) cx, v]).run P w = .ok (mkV (.sl e) cs) w' ∧ Frm w w' fx ∧ RO w' (d + 1) (.sl e) (xs ++ ys) cs f ∧ f.Nodup ∧ ∀ b ∈ f, b < w'.heap.size ∧ (b ∈ fx ++ fy ∨ w.heap.size ≤ b) := by
  obtain ⟨E0, u0, te⟩ := (hT _ _ e0).und
  obtain ⟨E1, u1, _⟩ := (hT _ _ e1).und
  rw [append_tys h0 h1 u0 u1]
  obtain ⟨i, hi, hsz, hby, hz⟩ := (hT _ _ te).info
  have hroom : xs.length + ys.length ≤ 68719476736 := hroom
  have hzs : (mkV e (zc e)).cells.size = csz e := by
    rw [cells_mkV' (zc_len e) (zc_one e)]; simp [zc_len]
  have hbytes : (xs.length + ys.length) * i.bytes ≤ 140737488355328 := by
    have : (xs.length + ys.length) * i.bytes ≤ 68719476736 * 1024 := Nat.mul_le_mul hroom hby
    omega
  have hnd := List.nodup_append.1 hn
  rcases hx with ⟨rfl, rfl, rfl⟩ | ⟨b, off, cap, cur, et, f', rfl, h2, rfl, h4⟩
  · -- nil
    rcases hy.is with ⟨rfl, rfl⟩ | ⟨a, c, rfl, hloc⟩
    · refine ⟨w, [.slice none 0 0], [], ?_, Frm.refl _ _, .inl ⟨rfl, rfl, rfl⟩, by simp, by simp⟩
      simp [Builtin.append_, mkV, run_underlying u0, Go.sizeOf, typeInfo, hi, Builtin.lenOf, Builtin.firstCells]
    · by_cases hm : ys.length = 0
      · have hys := List.length_eq_zero_iff.1 hm
        subst hys
        refine ⟨w, [.slice none 0 0], [], ?_, Frm.refl _ _, .inl ⟨rfl, rfl, rfl⟩, by simp, by simp⟩
        simp [Builtin.append_, mkV, run_underlying u0, Go.sizeOf, typeInfo, hi, Builtin.lenOf, Builtin.firstCells, loadCells, loadCellsFrom]
      · have hl := hy.len
        rw [← hsz] at hl
        have hr := run_append_nil (P := P) w T0 ot E0 i _ u0 hi hz a ys.length c news hl hloc (by omega) (by omega) (by simp at hbytes; omega)
        have hge := grownCap_ge w ys.length 0 E0
        have hcm := grownCap_le_maxLen w ys.length 0 E0 (by simp only [maxLen]; omega)
        refine ⟨_, [.slice (some ⟨w.heap.size, 0, none⟩) ys.length (grownCap w ys.length 0 E0)], w.heap.size :: fy, hr, drew_alloc_frm _ _ _, ?_, ?_, ?_⟩
        · exact new_row hy.len hy.el (fun b hb => hlt b (by simp [hb])) hge hcm (by rw [size_zeroCells, hzs]; rfl)
        · exact List.nodup_cons.2 ⟨fun hb => by have := hlt _ (List.mem_append_right _ hb); omega, hnd.2.1⟩
        · intro q hq
          rw [World.size_alloc]
          rcases List.mem_cons.1 hq with rfl | hq
          · exact ⟨Nat.lt_succ_self _, .inr (Nat.le_refl _)⟩
          · exact ⟨Nat.lt_succ_of_lt (hlt q (by simp [hq])), .inl (by simp [hq])⟩
  · have hold := EL_one _ _ _ h4
    have hbf : b ∉ f' := (List.nodup_cons.1 hnd.1).1
    rcases hy.is with ⟨rfl, rfl⟩ | ⟨a, c, rfl, hloc⟩
    · refine ⟨w, [.slice (some ⟨b, off, none⟩) xs.length cap], b :: f', ?_, Frm.refl _ _, ?_, hnd.1, fun q hq => ⟨hlt q (by simp only [List.mem_append]; exact .inl hq), .inl (by simp only [List.mem_append]; exact .inl hq)⟩⟩
      · have := h2.len
        simp [Builtin.append_, mkV, run_underlying u0, Go.sizeOf, typeInfo, hi, Builtin.lenOf, Builtin.firstCells, this, storeCells]
      · rw [List.append_nil]
        exact .inr ⟨b, off, cap, cur, et, f', rfl, h2, rfl, h4⟩
    · by_cases hrm : xs.length + ys.length ≤ cap
      · have hl := hy.len
        have hfit : off + xs.length * csz e + news.length ≤ cur.size := by
          have := h2.fit
          have h3 : (xs.length + ys.length) * csz e ≤ cap * csz e := Nat.mul_le_mul_right _ hrm
          rw [Nat.add_mul] at h3
          rw [hl]; omega
        have hr := append_room (ty := ot) u0 hi (o := off) (sLen := xs.length) (sCap := cap) (c := c) h2.obj (by rw [hsz]; exact hl) hloc hy.one hrm (by rw [hsz]; exact hfit)
        rw [hsz] at hr
        have hwr : Wr w _ b (off + xs.length * csz e) news cur et := ⟨h2.obj, hfit, rfl⟩
        refine ⟨_, [.slice (some ⟨b, off, none⟩) (xs.length + ys.length) cap], b :: (f' ++ fy), hr, ?_, ?_, ?_, ?_⟩
        · exact ⟨rfl, rfl, rfl, by simp, fun q hq hqn => hwr.other q (by rintro rfl; simp at hqn)⟩
        · refine .inr ⟨b, off, cap, _, et, f' ++ fy, by simp, ⟨hwr.at, ?_, by simp; exact hrm, h2.cap⟩, rfl, ?_⟩
          · rw [splice_size hfit]; exact h2.fit
          · have hcell := fun k => splice_get (cur := cur) (o := off + xs.length * csz e) (cy := news) hfit k
            have p1 : EL (RO (w.setRow b (splice cur (off + xs.length * csz e) news)) d e) (csz e) xs ((splice cur (off + xs.length * csz e) news).toList.drop off) f' := by
              refine EL_mono _ _ _ (fun y c k hk hh => RO_same _ _ _ _ _ (fun q hq => hwr.other q (by rintro rfl; exact hbf (hk _ hq))) hh) (EL_ext _ _ _ _ (fun k hk => ?_) h4)
              rw [List.getElem?_drop, List.getElem?_drop, hcell, if_neg (by omega)]
            have p2 : EL (RO (w.setRow b (splice cur (off + xs.length * csz e) news)) d e) (csz e) ys (((splice cur (off + xs.length * csz e) news).toList.drop off).drop (xs.length * csz e)) fy := by
              refine EL_mono _ _ _ (fun y c k hk hh => RO_same _ _ _ _ _ (fun q hq => hwr.other q (by rintro rfl; exact hnd.2.2 _ (by simp) _ (hk _ hq) rfl)) hh) (EL_ext _ _ _ _ (fun k hk => ?_) hy.el)
              rw [List.drop_drop, List.getElem?_drop, hcell, if_pos (by omega)]
              congr 1; omega
            exact EL_app _ _ _ _ _ p1 p2
        · exact hn
        · intro q hq
          have hq' : q ∈ (b :: f') ++ fy := hq
          exact ⟨by simpa using hlt q hq', .inl hq'⟩
      · have hl := hy.len
        have holds : locA w ⟨b, off, none⟩ ((cur.toList.drop off).take (xs.length * csz e)) := locA_take _ (arr_loc h2)
        have hlo : ((cur.toList.drop off).take (xs.length * csz e)).length = xs.length * csz e := by rw [List.length_take]; omega
        have hr := run_append_grow (P := P) w T0 ot E0 i _ u0 hi hz ⟨b, off, none⟩ xs.length cap _ (by rw [hsz]; exact hlo) holds a ys.length c news (by rw [hsz]; exact hl) hloc (by omega) (by omega)
          (growslice_fits (by omega) hbytes)
        have hge := grownCap_ge w (xs.length + ys.length) cap E0
        have hcm := grownCap_le_maxLen w (xs.length + ys.length) cap E0 (by simp only [maxLen]; omega)
        have p1 : EL (RO w d e) (csz e) (xs ++ ys) ((cur.toList.drop off).take (xs.length * csz e) ++ news) (f' ++ fy) := by
          refine EL_app _ _ _ _ _ (EL_ext _ _ _ _ (fun k hk => ?_) h4) ?_
          · rw [List.getElem?_append_left (by rw [hlo]; exact hk), List.getElem?_take, if_pos hk]
          · rw [List.drop_left' hlo]; exact hy.el
        have hnr := new_row (et := E0) (cap := grownCap w (xs.length + ys.length) cap E0) (rest := Builtin.zeroCells (mkV e (zc e)).cells (grownCap w (xs.length + ys.length) cap E0 - (xs.length + ys.length))) (by simp [hlo, hl, Nat.add_mul]) p1 (fun q hq => hlt q (by
          simp only [List.mem_append, List.mem_cons] at hq ⊢
          rcases hq with hq | hq
          · exact .inl (.inr hq)
          · exact .inr hq)) (by simpa using hge) hcm (by rw [size_zeroCells, hzs]; simp)
        refine ⟨_, [.slice (some ⟨w.heap.size, 0, none⟩) (xs.length + ys.length) (grownCap w (xs.length + ys.length) cap E0)], w.heap.size :: (f' ++ fy), hr, drew_alloc_frm _ _ _, ?_, ?_, ?_⟩
        · have e1 : (((cur.toList.drop off).take (xs.length * csz e)).toArray ++ news.toArray) = ((cur.toList.drop off).take (xs.length * csz e) ++ news).toArray := by simp
          rw [e1]
          simpa using hnr
        · exact List.nodup_cons.2 ⟨fun hb => by have := hlt w.heap.size (by simp only [List.mem_append, List.mem_cons] at hb ⊢; rcases hb with hb | hb; exact .inl (.inr hb); exact .inr hb); omega, (List.nodup_cons.1 hn).2⟩
        · intro q hq
          rw [World.size_alloc]
          rcases List.mem_cons.1 hq with rfl | hq
          · exact ⟨Nat.lt_succ_self _, .inr (Nat.le_refl _)⟩
          · have hq' : q ∈ (b :: f') ++ fy := by
              simp only [List.mem_append, List.mem_cons] at hq ⊢
              rcases hq with hq | hq
              · exact .inl (.inr hq)
              · exact .inr hq
            exact ⟨Nat.lt_succ_of_lt (hlt q hq'), .inl hq'⟩
end Net

/- append and make as operations. -/
namespace Net
open Go
set_option linter.unusedVariables false
set_option linter.unusedSectionVars false

theorem App.le {w : World} {d d' : Nat} (hd : d ≤ d') {e : Ty} {ys : List (El e)} {v : Value} {news : List Value} {fy : List Nat} (h : App w d e ys v news fy) : App w d' e ys v news fy :=
  ⟨h.is, h.len, h.one, EL_mono _ _ _ (fun y c k _ hh => RO_le hd hh) h.el⟩
theorem appE_some {α : Type} {xs ys zs : List α} (h : appE xs ys = some zs) : xs.length + ys.length ≤ room ∧ zs = xs ++ ys := by
  unfold appE at h
  split at h
  · rename_i h0; exact ⟨h0, (Option.some.inj h).symm⟩
  · cases h
theorem cast_some {a b : Ty} {x : El a} {y : El b} (h : castE a b x = some y) : ∃ e : a = b, y = e ▸ x := by
  have := castE_eq h
  simp only [Sigma.mk.injEq] at this
  obtain ⟨rfl, e⟩ := this
  exact ⟨rfl, (eq_of_heq e).symm⟩

theorem sameOp_eq {a : Act} {k1 k2 : IntKind} {m n : Int} : ∀ {l k : Operand}, sameOp l k = true → a.eval l = .int k1 m → a.eval k = .int k2 n → n = m
  | .tmp x, .tmp y, hs, m1, m2 => by
    simp only [sameOp] at hs
    have := Nat.eq_of_beq_eq_true hs
    subst this
    rw [m1] at m2
    simp only [Value.int.injEq] at m2
    exact m2.2.symm
  | .const (.int p x), .const (.int q y), hs, m1, m2 => by
    simp only [sameOp, beq_iff_eq] at hs
    subst hs
    simp only [Act.eval, Value.int.injEq] at m1 m2
    exact m2.2.symm.trans m1.2
theorem made_get {z : List Value} {n k : Nat} (hk : k < n) (hz : 0 < z.length) : (madeCells z.toArray n).toList[k]? = z[k % z.length]? := by
  have : k % z.length < z.length := Nat.mod_lt _ hz
  simp [madeCells, hk, this]
theorem made_el (w : World) (e : Ty) (m : Nat) : EL (RO w (rk e + 1) e) (csz e) (List.replicate m (zeroE e)) (madeCells (zc e).toArray (m * csz e)).toList [] := by
  refine EL_of_get _ _ (fun i y hi => ?_)
  rw [List.getElem?_replicate] at hi
  split at hi
  · rename_i hlt
    obtain rfl := (Option.some.inj hi)
    have hpos := csz_pos e
    have hl := zc_len e
    have : ((madeCells (zc e).toArray (m * csz e)).toList.drop (i * csz e)).take (csz e) = zc e := by
      apply List.ext_getElem?
      intro k
      rw [List.getElem?_take]
      split
      · rename_i hk
        have h1 : (i + 1) * csz e ≤ m * csz e := Nat.mul_le_mul_right _ hlt
        rw [Nat.add_mul] at h1
        rw [List.getElem?_drop, made_get (by omega) (by omega), hl]
        congr 1
        rw [Nat.add_comm, Nat.add_mul_mod_self_right, Nat.mod_eq_of_lt hk]
      · rw [List.getElem?_eq_none (by omega)]
    rw [this]
    exact zc_ok w _ _ (Nat.lt_succ_self _)
  · cases hi

section
variable {c : Cx} (he : EnvOK c) (ht : TyOK c.P c.E.ty) {σ σ' : St} {a : Act} {w : World} {F : Nat → List Nat} {G : Nat → Value} (h : Sim c σ a w [] F G) {Q : Exit → Act → World → Prop} {o : Oper}
include he ht h

theorem op_append {cl : Call} (ho : o.op = .call cl) (hb : cl.callee = .builtin .append) {x y : Operand} (hx : cl.args.toList = [x, y]) {ot : Option Ty} (hr : (appendK c.E ot cl.argTypes x y o.dst .done).run σ = some σ') : OpOK c σ' Q a w o := by
  unfold appendK at hr
  split at hr
  · rename_i e
    obtain ⟨hty, hr⟩ := chk_run hr
    simp only [Bool.and_eq_true] at hty
    obtain ⟨T0, t1, t2⟩ := at0_some (tyIs_eq hty.1)
    obtain ⟨T1, t3, t4⟩ := at1_some (tyIs_eq hty.2)
    obtain ⟨t, p, g, σ1, F1, f, cs, hr, h1, hm, k1, k2, k3⟩ := takeK_run he h hr
    cases hc : castE t (.sl e) p with
    | none => simp [hc, Mp.run] at hr
    | some xs =>
      simp only [hc] at hr
      obtain ⟨rfl, rfl⟩ := cast_some hc
      obtain ⟨hown, hr⟩ := chk_run hr
      obtain ⟨d1, hro⟩ := TR_own _ _ _ _ _ hown k3 k2
      have hargs := toList_two hx
      have exec : ∀ (v : Value) (w' : World) (r : Value), a.eval y = v → (Builtin.append_ cl.argTypes o.type #[mkV (.sl e) cs, v]).run c.P w = .ok r w' → (execOp a.eval o).run c.P w = .ok (.value r) w' := by
        intro v w' r hv hr
        simp only [execOp, ho, resolve, hb, hargs, Sem.run_bind, Sem.run_pure, Result.andThen_ok, invoke, builtin]
        rw [show (#[x, y].map a.eval) = #[mkV (.sl e) cs, v] by simp [k1, hv]]
        rw [hr]; rfl
      cases hp : plainT e with
      | true =>
        simp only [hp] at hr
        obtain ⟨u, q, sy, hr, _, _, d2, cy, m1, m2⟩ := viewK_run he h1 hr
        cases hc2 : castE u (.sl e) q with
        | none => simp [hc2, Mp.run] at hr
        | some ys =>
          simp only [hc2] at hr
          obtain ⟨rfl, rfl⟩ := cast_some hc2
          obtain ⟨zs, hz, hr⟩ := bnd_run hr
          obtain ⟨hroom, rfl⟩ := appE_some hz
          obtain ⟨d3, news, happ⟩ := App.of_RI hp m2
          have hX : (f ++ []).Nodup := h1.xnodup
          obtain ⟨w', cs', f', r1, r2, r3, r4, r5⟩ := append_run (ot := o.type) ht t1 t3 t2 t4 (RO_le (show d1 ≤ max d1 d3 + 1 by omega) hro) (happ.le (Nat.le_max_right d1 d3)) hX (fun b hb => (h1.xrng b (by simpa using hb)).1) hroom
          refine OpOK.value (exec _ _ _ m1 r1) ?_
          obtain ⟨F', h'⟩ := fin_set (f := f') h1 hr (r2.mono (fun b hb => by simp [hb])) r4 (fun b hb => ⟨(r5 b hb).1, (r5 b hb).2⟩) ⟨cs', rfl, TR_of_own r3⟩
          exact ⟨F', G, h'⟩
      | false =>
        simp only [hp] at hr
        obtain ⟨u, q, g2, σ2, F2, f2, cy, hr, h2, hm2, m1, m2, m3⟩ := takeK_run he h1 hr
        cases hc2 : castE u (.sl e) q with
        | none => simp [hc2, Mp.run] at hr
        | some ys =>
          simp only [hc2] at hr
          obtain ⟨rfl, rfl⟩ := cast_some hc2
          obtain ⟨hown2, hr⟩ := chk_run hr
          obtain ⟨zs, hz, hr⟩ := bnd_run hr
          obtain ⟨hroom, rfl⟩ := appE_some hz
          obtain ⟨d2, hro2⟩ := TR_own _ _ _ _ _ hown2 m3 m2
          obtain ⟨news, fy, happ, hsub⟩ := App.of_RO (RO_le (Nat.le_succ d2) hro2)
          have hX : (f2 ++ (f ++ [])).Nodup := h2.xnodup
          rw [List.append_nil] at hX
          have hX2 : (f ++ fy).Nodup := by
            have : (f2 ++ f).Perm (f ++ f2) := List.perm_append_comm
            exact (List.Sublist.append (List.Sublist.refl f) hsub).nodup (this.nodup_iff.1 hX)
          have hin : ∀ b ∈ f ++ fy, b ∈ f2 ++ (f ++ []) := by
            intro b hb
            simp only [List.mem_append] at hb ⊢
            rcases hb with hb | hb
            · exact .inr (.inl hb)
            · exact .inl (hsub.subset hb)
          obtain ⟨w', cs', f', r1, r2, r3, r4, r5⟩ := append_run (ot := o.type) ht t1 t3 t2 t4 (RO_le (show d1 ≤ max d1 d2 + 1 by omega) hro) (happ.le (Nat.le_max_right d1 d2)) hX2 (fun b hb => (h2.xrng b (hin b hb)).1) hroom
          refine OpOK.value (exec _ _ _ m1 r1) ?_
          obtain ⟨F', h'⟩ := fin_set (f := f') h2 hr (r2.mono (fun b hb => hin b (by simp [hb]))) r4 (fun b hb => ⟨(r5 b hb).1, (r5 b hb).2.imp (hin b) id⟩) ⟨cs', rfl, TR_of_own r3⟩
          exact ⟨F', G, h'⟩
  · simp [Mp.run] at hr

theorem op_make {T : Nat} {l k : Operand} (ho : o.op = .makeSlice T l k) (hr : (match c.E.ty T with
    | some (.sl e) => intK c.E l fun _ m => intK c.E k fun _ n => chk (sameOp l k) (.bnd (mkE (zeroE e) m) fun zs => setD c.E o.dst (.own (.sl e) zs .own) .done)
    | _ => .fail).run σ = some σ') : OpOK c σ' Q a w o := by
  split at hr
  · rename_i e hT
    obtain ⟨k1, m, hr, m1, _⟩ := intK_run he h hr
    obtain ⟨k2, n, hr, m2, _⟩ := intK_run he h hr
    obtain ⟨hs, hr⟩ := chk_run hr
    obtain ⟨zs, hz, hr⟩ := bnd_run hr
    have hmn : n = m := sameOp_eq hs m1 m2
    subst hmn
    unfold mkE at hz
    split at hz
    · rename_i h0
      obtain rfl := (Option.some.inj hz)
      have h1 : n ≤ 68719476736 := h0.2
      obtain ⟨Te, u0, te⟩ := (ht _ _ hT).und
      obtain ⟨i, hi, hsz, hby, hzv⟩ := (ht _ _ te).info
      have hbytes : (i.bytes : Int) * n ≤ 281474976710656 := by
        have : (i.bytes : Int) * n ≤ 1024 * 68719476736 := Int.mul_le_mul (by omega) h1 h0.1 (by omega)
        omega
      have hrun := run_make (P := c.P) w T Te i _ u0 hi hzv k1 k2 n n h0.1 (Int.le_refl _) hbytes (by omega)
      rw [cells_mkV' (zc_len e) (zc_one e), hsz] at hrun
      refine fin_new (f := []) (ob := .cells (madeCells (zc e).toArray (n.toNat * csz e)) Te) h ?_ hr (by simp) (by simp) ⟨[.slice (some ⟨w.heap.size, 0, none⟩) n.toNat n.toNat], rfl, TR_of_own (d := rk e + 1 + 1) (.inr ⟨w.heap.size, 0, n.toNat, madeCells (zc e).toArray (n.toNat * csz e), Te, [], ?_, ⟨alloc_new _ _, ?_, ?_, ?_⟩, rfl, ?_⟩)⟩
      · simp only [execOp, ho, m1, m2, Sem.run_bind, hrun, Result.andThen_ok, Sem.run_pure]; rfl
      · simp
      · rw [size_madeCells]; simp
      · simp
      · simp only [maxLen]; omega
      · exact made_el _ e n.toNat
    · cases hz
  · simp [Mp.run] at hr
end
end Net

/- Structs built. -/
namespace Net
open Go
set_option linter.unusedVariables false
set_option linter.unusedSectionVars false

theorem mapM_some {α β : Type} (g : α → Option β) : ∀ (l : List α), (∀ x ∈ l, ∃ y, g x = some y) → ∃ ys, l.mapM g = some ys ∧ ∀ (i : Nat) (x : α), l[i]? = some x → ys[i]? = g x
  | [], _ => ⟨[], by simp, by simp⟩
  | x :: l, h => by
    obtain ⟨y, hy⟩ := h x (by simp)
    obtain ⟨ys, h1, h2⟩ := mapM_some g l (fun z hz => h z (by simp [hz]))
    refine ⟨y :: ys, by simp [List.mapM_cons, hy, h1], fun i z hi => ?_⟩
    cases i with
    | zero => simp at hi; subst hi; simp [hy]
    | succ i => simpa using h2 i z (by simpa using hi)

theorem places_ok {P : Program} {ty : Nat → Option Ty} (hT : TyOK P ty) {T : Nat} {s : SId} (hty : TyAt P ty T (.st s)) :
    ∃ (fs : Array Field) (places : List (Nat × Nat)), P.underlying T = some (.struct fs) ∧ fs.toList.mapM (fun f => (P.info? f.type).map fun i => (f.offset, i.size)) = some places ∧ ∀ i u, (fieldsOf s)[i]? = some u → places[i]? = some (offs (fieldsOf s) i, csz u) := by
  obtain ⟨fs, h1, h2, h3⟩ := hty.und
  have key : ∀ i f, fs[i]? = some f → ∃ u, (fieldsOf s)[i]? = some u ∧ (P.info? f.type).map (fun j => (f.offset, j.size)) = some (offs (fieldsOf s) i, csz u) := by
    intro i f hf
    obtain ⟨u, h4, h5, h6, _⟩ := h3 i f hf
    obtain ⟨j, h7, h8, _⟩ := (hT _ _ h5).info
    exact ⟨u, h4, by rw [h7, Option.map_some, h8, h6]⟩
  obtain ⟨places, h4, h5⟩ := mapM_some (fun f : Field => (P.info? f.type).map fun i => (f.offset, i.size)) fs.toList (by
    intro f hf
    obtain ⟨i, hi⟩ := List.getElem?_of_mem hf
    obtain ⟨u, _, h6⟩ := key i f (by simpa using hi)
    exact ⟨_, h6⟩)
  refine ⟨fs, places, h1, h4, fun i u hu => ?_⟩
  have hi : i < fs.size := by rw [h2]; exact (List.getElem?_eq_some_iff.1 hu).1
  obtain ⟨u', h6, h7⟩ := key i fs[i] (by simp [hi])
  rw [hu] at h6
  obtain rfl := Option.some.inj h6
  rw [h5 i fs[i] (by simp [hi])]
  exact h7

theorem fold_splice {off : Nat} {cur : Array Value} {v : Value} (h : off + v.cells.size ≤ cur.size) : v.cells.zipIdx.foldl (fun cs (x : Value × Nat) => cs.setIfInBounds (off + x.2) x.1) cur = splice cur off v.cells.toList := by
  obtain ⟨h1, h2⟩ := Great.foldl_set off v.cells.toList 0 cur
  have h3 : off + v.cells.toList.length ≤ cur.size := by simpa using h
  rw [← Array.foldl_toList, Array.toList_zipIdx]
  apply Array.toList_inj.1
  apply List.ext_getElem?
  intro k
  rw [splice_get h3, Array.getElem?_toList, h2 k]
  simp only [Nat.add_zero]
  by_cases hk : off ≤ k ∧ k < off + v.cells.toList.length
  · rw [if_pos hk, if_pos ⟨hk.1, hk.2, by omega⟩]
  · rw [if_neg hk, if_neg (by omega), Array.getElem?_toList]

theorem setL_some : ∀ (ts : List Ty) (z : HL ts) (i : Nat) (u : Ty) (y : El u) (z' : HL ts), setL ts z i u y = some z' → ∃ y0, nthL ts z i = some ⟨u, y0⟩
  | [], _, i, u, y, z', h => by simp [setL] at h
  | t :: ts, z, 0, u, y, z', h => by
    simp only [setL, Option.map_eq_some_iff] at h
    obtain ⟨q, h1, _⟩ := h
    obtain ⟨rfl, _⟩ := cast_some h1
    exact ⟨z.1, rfl⟩
  | t :: ts, z, i + 1, u, y, z', h => by
    simp only [setL, Option.map_eq_some_iff] at h
    obtain ⟨q, h1, _⟩ := h
    obtain ⟨y0, h2⟩ := setL_some ts z.2 i u y q h1
    exact ⟨y0, by simpa only [nthL] using h2⟩

theorem splice_mid (pre c post cs : List Value) (h : cs.length = c.length) : splice (pre ++ (c ++ post)).toArray pre.length cs = (pre ++ (cs ++ post)).toArray := by
  simp [splice, h]

theorem buildK_run {c : Cx} (he : EnvOK c) {a : Act} {w : World} {G : Nat → Value} {s : SId} (place : Nat → Option (Nat × Nat)) (hpl : ∀ i u, (fieldsOf s)[i]? = some u → place i = some (offs (fieldsOf s) i, csz u)) {k : HL (fieldsOf s) → List Tag → Mp} {σ' : St} :
    ∀ (ps : List (Nat × Operand)) (z : HL (fieldsOf s)) (gs : List Tag) (cur : List Value) (fp X : List Nat) (σ : St) (F : Nat → List Nat), Sim c σ a w X F G → TRL w c.I gs (fieldsOf s) z cur fp → X = fp → (buildK c.E s ps z gs k).run σ = some σ' →
      ∃ z' gs' cur' fp' σ1 F1, (k z' gs').run σ1 = some σ' ∧ Sim c σ1 a w fp' F1 G ∧ TRL w c.I gs' (fieldsOf s) z' cur' fp' ∧ Instr.fill place cur.toArray (ps.map fun (i, x) => (i, a.eval x)) = some cur'.toArray
  | [], z, gs, cur, fp, X, σ, F, h, ht, hX, hr => by
    subst hX
    exact ⟨z, gs, cur, X, σ, F, hr, h, ht, rfl⟩
  | (i, o) :: ps, z, gs, cur, fp, X, σ, F, h, ht, hX, hr => by
    subst hX
    simp only [buildK] at hr
    obtain ⟨u, y, g, σ1, F1, f, cs, hr, h1, hm, k1, k2, k3⟩ := takeK_run he h hr
    cases hz : setL (fieldsOf s) z i u y with
    | none => simp [hz, Mp.run] at hr
    | some z' =>
      simp only [hz] at hr
      obtain ⟨y0, hn⟩ := setL_some _ _ _ _ _ _ hz
      have hlt := (nthL_lt _ _ _ _ hn).1
      have hgl := TRL_glen _ _ _ _ _ ht
      obtain ⟨gi, hgi⟩ : ∃ gi, gs[i]? = some gi := ⟨gs[i]'(by omega), by simp⟩
      obtain ⟨hu, pre, c0, post, fpre, f0, fpost, rfl, rfl, hpre, m1, m2⟩ := TRL_nth _ _ _ _ _ _ _ _ _ ht hn hgi
      have hnew := m2 w g y cs f z' (fun _ _ _ => rfl) (fun _ _ => rfl) k2 hz
      have hX : (f ++ (fpre ++ (f0 ++ fpost))).Nodup := h1.xnodup
      have hperm : (f ++ (fpre ++ fpost)).Perm (fpre ++ (f ++ fpost)) := by
        rw [← List.append_assoc, ← List.append_assoc]
        exact List.Perm.append_right _ List.perm_append_comm
      have hsub : List.Sublist (f ++ (fpre ++ fpost)) (f ++ (fpre ++ (f0 ++ fpost))) :=
        List.Sublist.append (List.Sublist.refl _) (List.Sublist.append (List.Sublist.refl _) (List.sublist_append_right _ _))
      have h2 : Sim c σ1 a w (fpre ++ (f ++ fpost)) F1 G := h1.world (Frm.refl _ _) (hperm.nodup_iff.1 (hsub.nodup hX)) (fun b hb => by
        have hb' := hsub.subset (hperm.mem_iff.2 hb)
        exact ⟨(h1.xrng b hb').1, .inl hb'⟩)
      obtain ⟨z2, gs2, cur2, fp2, σ2, F2, r1, r2, r3, r4⟩ := buildK_run he place hpl ps z' (gs.set i g) _ _ _ _ _ h2 hnew rfl hr
      refine ⟨z2, gs2, cur2, fp2, σ2, F2, r1, r2, r3, ?_⟩
      have hl := TR_len _ _ _ _ _ k2
      have hl0 := TR_len _ _ _ _ _ m1
      obtain ⟨d, hd⟩ := TR_view (J := fun _ => True) (fun _ _ _ => trivial) _ _ _ _ _ k3 (fun _ _ => trivial) k2
      have hc := cells_mkV' (RI_len _ _ _ _ hd) (oneCells _ _ _ _ hd)
      simp only [List.map_cons]
      unfold Instr.fill
      simp only [hpl i u hu, k1]
      have hsz : (mkV u cs).cells.size = csz u := by rw [hc]; simpa using hl
      have hfit : offs (fieldsOf s) i + (mkV u cs).cells.size ≤ (pre ++ (c0 ++ post)).toArray.size := by
        rw [hsz]; simp; omega
      rw [if_neg (by rw [hsz]; rw [hsz] at hfit; simp only [ne_eq, not_true_eq_false, decide_false, Bool.false_or, decide_eq_true_eq]; omega)]
      have e0 : (mkV u cs).cells.toList = cs := by rw [hc]
      rw [fold_splice hfit, e0, ← hpre, splice_mid _ _ _ _ (by omega)]
      exact r4

theorem op_build {c : Cx} (he : EnvOK c) (ht : TyOK c.P c.E.ty) {σ σ' : St} {a : Act} {w : World} {F : Nat → List Nat} {G : Nat → Value} (h : Sim c σ a w [] F G) {Q : Exit → Act → World → Prop} {o : Oper} {T : Nat} {ps : Array (Nat × Operand)} (ho : o.op = .build T ps) (hr : (match c.E.ty T with
    | some (.st s) => buildK c.E s ps.toList (toL s (zeroS s)) (List.replicate (fieldsOf s).length .own) fun z gs => setD c.E o.dst (.own (.st s) (ofL s z) (.st gs)) .done
    | _ => .fail).run σ = some σ') : OpOK c σ' Q a w o := by
  split at hr
  · rename_i s hT
    obtain ⟨fs, places, u0, u1, u2⟩ := places_ok ht (ht _ _ hT)
    obtain ⟨i, hi, _, _, hz⟩ := (ht _ _ hT).info
    have h0 : TRL w c.I (List.replicate (fieldsOf s).length .own) (fieldsOf s) (toL s (zeroS s)) (zc (.st s)) [] := TR_split (g := .own) (zc_tr w c.I (.st s))
    obtain ⟨z', gs', cur', fp', σ1, F1, r1, r2, r3, r4⟩ := buildK_run he (fun i => places.toArray[i]?) (fun i u hu => by simpa using u2 i u hu) ps.toList _ _ _ [] [] σ F h h0 rfl hr
    have hb : c.P.built T (ps.map fun (i, x) => (i, a.eval x)).toList = some cur'.toArray := by
      unfold Program.built
      simp only [hi, u0, hz, u1]
      rw [Array.toList_map]
      exact r4
    refine OpOK.value (v := .agg cur'.toArray) (w' := w) ?_ ?_
    · simp only [execOp, ho, Sem.run_bind, run_build w T _ _ hb, Result.andThen_ok, Sem.run_pure]
    · obtain ⟨F', h'⟩ := fin_set (f := fp') r2 r1 (Frm.refl _ _) r2.xnodup (fun b hb => ⟨(r2.xrng b hb).1, .inl hb⟩) ⟨cur', rfl, TR_join (by rw [toL_ofL]; exact r3)⟩
      exact ⟨F', G, h'⟩
  · simp [Mp.run] at hr
end Net

/- Slices built. -/
namespace Net
open Go
set_option linter.unusedVariables false
set_option linter.unusedSectionVars false

def ElT (w : World) (I : Bool → Nat → Prop) (e : Ty) : List (El e) → List Tag → List (List Value) → List Nat → Prop
  | [], [], [], f => f = []
  | z :: zs, g :: gs, c :: cs, f => ∃ f1 f2, f = f1 ++ f2 ∧ TR w I g e z c f1 ∧ aliveT e g = true ∧ ElT w I e zs gs cs f2
  | _, _, _, _ => False

theorem buildSlK_run {c : Cx} (he : EnvOK c) {a : Act} {w : World} {G : Nat → Value} {e : Ty} {σ' : St} :
    ∀ (ps : List (Nat × Operand)) (n : Nat) (k : List (El e) → List Tag → Mp) (X : List Nat) (σ : St) (F : Nat → List Nat), Sim c σ a w X F G → (buildSlK c.E e n ps k).run σ = some σ' →
      ∃ zs gs css f σ1 F1, (k zs gs).run σ1 = some σ' ∧ Sim c σ1 a w (f ++ X) F1 G ∧ ElT w c.I e zs gs css f ∧ zs.length = ps.length ∧ css.length = ps.length ∧ ps.map (fun (i, x) => (i, a.eval x)) = ((css.map (mkV e)).zipIdx n).map fun x => (x.2, x.1)
  | [], n, k, X, σ, F, h, hr => ⟨[], [], [], [], σ, F, hr, h, rfl, rfl, rfl, rfl⟩
  | (i, o) :: ps, n, k, X, σ, F, h, hr => by
    simp only [buildSlK] at hr
    obtain ⟨hi, hr⟩ := chk_run hr
    have hi := Nat.eq_of_beq_eq_true hi
    obtain ⟨u, y, g, σ1, F1, f, cs, hr, h1, hm, k1, k2, k3⟩ := takeK_run he h hr
    cases hz : castE u e y with
    | none => simp [hz, Mp.run] at hr
    | some z =>
      simp only [hz] at hr
      obtain ⟨rfl, rfl⟩ := cast_some hz
      obtain ⟨zs, gs, css, f2, σ2, F2, r1, r2, r3, r4, r5, r6⟩ := buildSlK_run he ps (n + 1) _ _ _ _ h1 hr
      have hperm : (f2 ++ (f ++ X)).Perm ((f ++ f2) ++ X) := by
        rw [← List.append_assoc]
        exact List.Perm.append_right _ List.perm_append_comm
      have h2 : Sim c σ2 a w ((f ++ f2) ++ X) F2 G := r2.world (Frm.refl _ _) (hperm.nodup_iff.1 r2.xnodup) (fun b hb => by
        have hb' := hperm.mem_iff.2 hb
        exact ⟨(r2.xrng b hb').1, .inl hb'⟩)
      refine ⟨z :: zs, g :: gs, cs :: css, f ++ f2, σ2, F2, r1, h2, ⟨f, f2, rfl, k2, k3, r3⟩, by simp [r4], by simp [r5], ?_⟩
      simp only [List.map_cons, List.zipIdx_cons]
      rw [r6, k1, hi]

theorem ElT_len {w : World} {I : Bool → Nat → Prop} {e : Ty} : ∀ (zs : List (El e)) (gs : List Tag) (css : List (List Value)) (f : List Nat), ElT w I e zs gs css f → (∀ c ∈ css, c.length = csz e ∧ ∀ v ∈ c, v.oneCell' = true) ∧ css.length = zs.length ∧ css.flatten.length = zs.length * csz e
  | [], [], [], f, h => by simp
  | z :: zs, g :: gs, c :: css, f, h => by
    obtain ⟨f1, f2, rfl, h1, h2, h3⟩ := h
    obtain ⟨h4, h5, h6⟩ := ElT_len zs gs css f2 h3
    have hl := TR_len _ _ _ _ _ h1
    obtain ⟨d, hd⟩ := TR_view (J := fun _ => True) (fun _ _ _ => trivial) _ _ _ _ _ h2 (fun _ _ => trivial) h1
    refine ⟨?_, by simp [h5], by simp [h6, hl, Nat.add_mul]; omega⟩
    intro c' hc'
    rcases List.mem_cons.1 hc' with rfl | hc'
    · exact ⟨hl, oneCells _ _ _ _ hd⟩
    · exact h4 c' hc'
  | [], [], _ :: _, _, h | [], _ :: _, [], _, h | [], _ :: _, _ :: _, _, h | _ :: _, [], [], _, h | _ :: _, [], _ :: _, _, h | _ :: _, _ :: _, [], _, h => h.elim
theorem ElT_EL {w : World} {I : Bool → Nat → Prop} {e : Ty} {R : El e → List Value → List Nat → Prop} : ∀ (zs : List (El e)) (gs : List Tag) (css : List (List Value)) (f : List Nat), ElT w I e zs gs css f → (∀ g z c f, g ∈ gs → aliveT e g = true → TR w I g e z c f → R z c f) → EL R (csz e) zs css.flatten f
  | [], [], [], f, h, _ => h
  | z :: zs, g :: gs, c :: css, f, h, hR => by
    obtain ⟨f1, f2, rfl, h1, h2, h3⟩ := h
    have hl := TR_len _ _ _ _ _ h1
    refine ⟨f1, f2, rfl, ?_, ?_⟩
    · rw [List.flatten_cons, ← hl, List.take_left]; exact hR _ _ _ _ (by simp) h2 h1
    · rw [List.flatten_cons, ← hl, List.drop_left, hl]; exact ElT_EL zs gs css f2 h3 (fun g z c f hg => hR g z c f (by simp [hg]))
  | [], [], _ :: _, _, h, _ | [], _ :: _, [], _, h, _ | [], _ :: _, _ :: _, _, h, _ | _ :: _, [], [], _, h, _ | _ :: _, [], _ :: _, _, h, _ | _ :: _, _ :: _, [], _, h, _ => h.elim

theorem sameTag_some {e : Ty} {gs : List Tag} {g : Tag} (h : sameTag e gs = some g) : (g = .own ∧ ∀ x ∈ gs, ownT e x = true) ∨ (g = .os (.imm false) ∧ ∀ x ∈ gs, x = .imm false) := by
  unfold sameTag at h
  cases h1 : gs.all (ownT e) with
  | true =>
    simp only [h1, Option.some.injEq] at h
    exact .inl ⟨h.symm, by simpa using h1⟩
  | false =>
    cases h2 : gs.all Tag.isImm with
    | true =>
      simp only [h1, h2, Option.some.injEq] at h
      refine .inr ⟨h.symm, fun x hx => ?_⟩
      have := List.all_eq_true.1 h2 x hx
      cases x <;> simp [Tag.isImm] at this
      rename_i q
      cases q <;> simp_all [Tag.isImm]
    | false => simp [h1, h2] at h

theorem op_buildSlice {c : Cx} (he : EnvOK c) (ht : TyOK c.P c.E.ty) {σ σ' : St} {a : Act} {w : World} {F : Nat → List Nat} {G : Nat → Value} (h : Sim c σ a w [] F G) {Q : Exit → Act → World → Prop} {o : Oper} {T n : Nat} {ps : Array (Nat × Operand)} (ho : o.op = .buildSlice T n ps) (hr : (match c.E.ty T with
    | some (.sl e) => chk (Nat.beq n ps.toList.length && Nat.ble (n * csz e) 16777216) (buildSlK c.E e 0 ps.toList fun zs gs => match sameTag e gs with
      | some .own => setD c.E o.dst (.own (.sl e) zs .own) .done
      | some g => setD c.E o.dst (.own (.sl e) zs g) .done
      | none => .fail)
    | _ => .fail).run σ = some σ') : OpOK c σ' Q a w o := by
  split at hr
  · rename_i e hT
    obtain ⟨hn, hr⟩ := chk_run hr
    simp only [Bool.and_eq_true] at hn
    have hn1 := Nat.eq_of_beq_eq_true hn.1
    have hn2 := Nat.le_of_ble_eq_true hn.2
    obtain ⟨zs, gs, css, f, σ1, F1, r1, r2, r3, r4, r5, r6⟩ := buildSlK_run he _ _ _ _ _ _ h hr
    rw [List.append_nil] at r2
    obtain ⟨l1, l2, l3⟩ := ElT_len _ _ _ _ r3
    obtain ⟨Te, u0, te⟩ := (ht _ _ hT).und
    obtain ⟨i, hi, hsz, hby, hz⟩ := (ht _ _ te).info
    have hpos := csz_pos e
    have hzn : zs.length = n := by rw [r4, hn1]
    have hexec : (execOp a.eval o).run c.P w = .ok (.value (.slice (some ⟨w.heap.size, 0, none⟩) n n)) (w.alloc (.cells css.flatten.toArray Te)) := by
      have hparts : (ps.map fun (i, x) => (i, a.eval x)).toList = ((css.map (mkV e)).zipIdx 0).map fun x => (x.2, x.1) := by rw [Array.toList_map]; exact r6
      have hb : (Instr.buildSlice T n (ps.map fun (i, x) => (i, a.eval x))).run c.P w = .ok (.slice (some ⟨w.heap.size, 0, none⟩) n n) (w.alloc (.cells css.flatten.toArray Te)) := by
        by_cases h0 : n = 0
        · have hps : ps = #[] := Array.toList_inj.1 (List.length_eq_zero_iff.1 (by omega))
          have hcs : css = [] := List.length_eq_zero_iff.1 (by omega)
          subst h0; subst hps; subst hcs
          simp [Instr.buildSlice, run_underlying u0, Go.sizeOf, typeInfo, hi, newRow, Instr.fill]
          congr 2
          rw [Array.range_zero', Array.map_empty]
        · refine run_buildSlice w T Te n _ _ i _ u0 hi hz (by rw [hsz]; omega) (by rw [hsz]; intro hh; rcases Nat.mul_eq_zero.1 hh with hh | hh <;> omega) ?_
          rw [hparts, hsz]
          have hc : ∀ c ∈ css, (mkV e c).cells = c.toArray := fun c hc => cells_mkV' (l1 c hc).1 (l1 c hc).2
          have := Great.fill_whole hpos (css.map (mkV e)) ((Array.range (n * csz e)).map ((mkV e (zc e)).cells[· % (mkV e (zc e)).cells.size]!)) (by
            intro v hv
            obtain ⟨c, hc', rfl⟩ := List.mem_map.1 hv
            rw [hc c hc']; simpa using (l1 c hc').1) (by simp [r5, hn1])
          rw [this]
          congr 2
          rw [List.flatMap_map]
          have e2 : ∀ (l : List (List Value)), (∀ c ∈ l, (mkV e c).cells = c.toArray) → (l.flatMap fun c => (mkV e c).cells.toList) = l.flatten := by
            intro l
            induction l with
            | nil => intro _; rfl
            | cons c l ih =>
              intro hl
              rw [List.flatMap_cons, List.flatten_cons, ih (fun c hc => hl c (by simp [hc])), hl c (by simp)]
          exact e2 css hc
      simp only [execOp, ho, Sem.run_bind, hb, Result.andThen_ok, Sem.run_pure]
    have hnew : Arr (w.alloc (.cells css.flatten.toArray Te)) w.heap.size 0 n zs.length (csz e) css.flatten.toArray Te := by
      refine ⟨alloc_new _ _, ?_, by omega, ?_⟩
      · simp only [Nat.zero_add, List.size_toArray, l3, hzn]; exact Nat.le_refl _
      · have : n * 1 ≤ n * csz e := Nat.mul_le_mul_left _ hpos
        simp only [maxLen]; omega
    have hIold : ∀ k b, c.I k b → (w.alloc (.cells css.flatten.toArray Te)).heap[b]? = w.heap[b]? := fun k b hb => alloc_old _ _ _ (Nat.lt_of_lt_of_le (r2.I_ip k b hb).1 r2.grow)
    have hfold : ∀ b ∈ f, (w.alloc (.cells css.flatten.toArray Te)).heap[b]? = w.heap[b]? := fun b hb => alloc_old _ _ _ (r2.xrng b hb).1
    have hval : Value.slice (some ⟨w.heap.size, 0, none⟩) n n = mkV (.sl e) [.slice (some ⟨w.heap.size, 0, none⟩) zs.length n] := by rw [hzn]; rfl
    rw [hval] at hexec
    cases hs : sameTag e gs with
    | none => simp [hs, Mp.run] at r1
    | some g =>
      rcases sameTag_some hs with ⟨rfl, hall⟩ | ⟨rfl, hall⟩
      · simp only [hs] at r1
        have hel := ElT_EL (R := fun y c f => ∃ d, RO w d e y c f) _ _ _ _ r3 (fun g z c f hg ha hh => TR_own _ _ _ _ _ (hall g hg) ha hh)
        obtain ⟨d, hel⟩ := EL_bound (R := fun d => RO w d e) (fun d d' y c f hd hh => RO_le hd hh) _ _ _ hel
        refine fin_new r2 hexec r1 (fun b hb => hb) r2.xnodup ⟨_, rfl, TR_of_own (d := d + 1) (.inr ⟨w.heap.size, 0, n, _, Te, f, rfl, hnew, rfl, ?_⟩)⟩
        exact EL_mono _ _ _ (fun y c k hk hh => RO_same _ _ _ _ _ (fun b hb => hfold b (hk b hb)) hh) hel
      · simp only [hs] at r1
        have hel := ElT_EL (R := TR w c.I (.imm false) e) _ _ _ _ r3 (fun g z c f hg ha hh => by rw [hall g hg] at hh; exact hh)
        refine fin_new r2 hexec r1 (fun b hb => hb) r2.xnodup ⟨_, rfl, ?_⟩
        simp only [TR.eq_def (w := w.alloc (.cells css.flatten.toArray Te)) (I := c.I) (.os (.imm false))]
        exact ⟨w.heap.size, 0, n, _, Te, f, rfl, hnew, rfl, EL_mono _ _ _ (fun y c k hk hh => TR_same hIold _ _ _ _ _ (fun b hb => hfold b (hk b hb)) hh) hel⟩
  · simp [Mp.run] at hr
end Net

/- Stores. -/
namespace Net
open Go
set_option linter.unusedVariables false
set_option linter.unusedSectionVars false

/-- Where one may write there is an array. -/
theorem path_wr {w : World} {I : Bool → Nat → Prop} {S : Nat → Prop} {u : Ty} {ad : Addr} {cs' : List Value} (hu : cs'.length = csz u) : ∀ (p : List Step) (g : Tag) (t : Ty) (x : El t) (cs : List Value) (fp : List Nat) (A : Option Addr) (x' : El u),
    TR w I g t x cs fp → (∀ a, A = some a → ∃ b o cur et, a = ⟨b, o, none⟩ ∧ w.heap[b]? = some (.cells cur et (0, 0)) ∧ o + cs.length ≤ cur.size) → GetAt t x p u x' → PathTo w S t A cs p (some ad) cs' → wrtT t g p = true →
    ∃ b o cur et, ad = ⟨b, o, none⟩ ∧ w.heap[b]? = some (.cells cur et (0, 0)) ∧ o + csz u ≤ cur.size ∧ (b ∈ fp ∨ ∃ a, A = some a ∧ b = a.block)
  | [], g, t, x, cs, fp, A, x', h, hA, hg, hp, hwr => by
    have hp' : some ad = A ∧ cs' = cs := by cases t <;> exact hp
    obtain ⟨rfl, rfl⟩ := hp'
    obtain ⟨b, o, cur, et, rfl, h1, h2⟩ := hA ad rfl
    exact ⟨b, o, cur, et, rfl, h1, by omega, .inr ⟨_, rfl, rfl⟩⟩
  | .f i :: p, g, .st s, x, cs, fp, A, x', h, hA, hg, hp, hwr => by
    obtain ⟨v, z, hn, hg2⟩ := hg
    obtain ⟨v', hv', hp2⟩ := hp
    obtain ⟨gi, pre, c, post, fpre, f, fpost, h1, h2, rfl, rfl, h5, h6, _⟩ := TR_field h hn
    rw [h2] at hv'
    obtain rfl := Option.some.inj hv'
    have hl := TR_len _ _ _ _ _ h6
    have hc : ((pre ++ (c ++ post)).drop (offs (fieldsOf s) i)).take (csz v) = c := by
      rw [← h5, List.drop_left, ← hl, List.take_left]
    rw [hc] at hp2
    have hwr2 : wrtT v gi p = true := by
      simp only [wrtT, h2, h1] at hwr
      exact hwr
    obtain ⟨b, o, cur, et, k1, k2, k3, k4⟩ := path_wr hu p gi v z c f _ x' h6 (by
      intro a ha
      cases A with
      | none => simp at ha
      | some a0 =>
        simp at ha; subst ha
        obtain ⟨b, o, cur, et, rfl, m1, m2⟩ := hA a0 rfl
        refine ⟨b, o + offs (fieldsOf s) i, cur, et, add_mk _ _ _, m1, ?_⟩
        simp only [List.length_append] at m2
        omega) hg2 hp2 hwr2
    refine ⟨b, o, cur, et, k1, k2, k3, ?_⟩
    rcases k4 with k4 | ⟨a, ha, k4⟩
    · left
      simp only [List.mem_append]
      exact .inr (.inl k4)
    · right
      cases A with
      | none => simp at ha
      | some a0 =>
        simp at ha; subst ha
        exact ⟨a0, rfl, by rw [k4, add_block]⟩
  | .ix n :: p, g, .sl e, xs, cs, fp, A, x', h, hA, hg, hp, hwr => by
    obtain ⟨rfl, hwr2⟩ := wrt_ix hwr
    obtain ⟨z, hz, hg2⟩ := hg
    obtain ⟨a, len, cap, c, rfl, hn, _, hloc, hcl, hp2⟩ := hp
    simp only [TR] at h
    obtain ⟨d, hd⟩ := h
    cases d with
    | zero => exact hd.elim
    | succ d =>
      rcases hd with ⟨h1, _⟩ | ⟨b, off, cap2, cur, et, f, h1, h2, rfl, h4⟩
      · simp at h1
      · simp only [List.cons.injEq, Value.slice.injEq, Option.some.injEq, and_true] at h1
        obtain ⟨rfl, rfl, rfl⟩ := h1
        obtain ⟨c2, f2, m1, m2, m3⟩ := EL_read h2 h4 n z hz
        have hlz := RO_len _ _ _ _ _ m3
        have hcc : c = c2 := loc_unique hloc m1 (by omega)
        subst hcc
        have hfit := h2.fit
        have hnl : (n + 1) * csz e ≤ cap * csz e := Nat.mul_le_mul_right _ (by have := h2.len; omega)
        rw [Nat.add_mul] at hnl
        obtain ⟨b2, o2, cur2, et2, k1, k2, k3, k4⟩ := path_wr (I := I) hu p .own e z c f2 _ x' (TR_of_own m3) (by
          intro a ha
          simp only [Option.some.injEq] at ha
          subst ha
          exact ⟨b, off + n * csz e, cur, et, add_mk _ _ _, h2.obj, by omega⟩) hg2 hp2 hwr2
        refine ⟨b2, o2, cur2, et2, k1, k2, k3, .inl ?_⟩
        rcases k4 with k4 | ⟨a, ha, k4⟩
        · exact List.mem_cons_of_mem _ (m2 _ k4)
        · simp only [Option.some.injEq] at ha
          subst ha
          rw [k4, add_block]; simp
  | .f i :: p, _, .int _, _, _, _, _, _, _, _, h, _, _ | .f i :: p, _, .bool, _, _, _, _, _, _, _, h, _, _ | .f i :: p, _, .str, _, _, _, _, _, _, _, h, _, _ | .f i :: p, _, .sl _, _, _, _, _, _, _, _, h, _, _ => h.elim
  | .ix i :: p, _, .int _, _, _, _, _, _, _, _, h, _, _ | .ix i :: p, _, .bool, _, _, _, _, _, _, _, h, _, _ | .ix i :: p, _, .str, _, _, _, _, _, _, _, h, _, _ | .ix i :: p, _, .st _, _, _, _, _, _, _, _, h, _, _ => h.elim

theorem offs_le : ∀ (ts : List Ty) (i : Nat) (v : Ty), ts[i]? = some v → offs ts i + csz v ≤ (ts.map csz).sum
  | [], i, v, h => by simp at h
  | t :: ts, 0, v, h => by simp at h; subst h; simp [offs]
  | t :: ts, i + 1, v, h => by
    have := offs_le ts i v (by simpa using h)
    simp [offs] at this ⊢
    omega
theorem path_len {w : World} {S : Nat → Prop} {u : Ty} : ∀ (p : List Step) (t : Ty) (x : El t) (cs : List Value) (A A' : Option Addr) (cs' : List Value) (x' : El u), cs.length = csz t → GetAt t x p u x' → PathTo w S t A cs p A' cs' → cs'.length = csz u
  | [], t, x, cs, A, A', cs', x', hl, hg, hp => by
    have hp' : A' = A ∧ cs' = cs := by cases t <;> exact hp
    have hg' : (⟨t, x⟩ : (t : Ty) × El t) = ⟨u, x'⟩ := by cases t <;> exact hg
    simp only [Sigma.mk.injEq] at hg'
    obtain ⟨rfl, _⟩ := hg'
    rw [hp'.2]; exact hl
  | .f i :: p, .st s, x, cs, A, A', cs', x', hl, hg, hp => by
    obtain ⟨v, z, hn, hg2⟩ := hg
    obtain ⟨v', hv', hp2⟩ := hp
    rw [(nthL_lt _ _ _ _ hn).2] at hv'
    obtain rfl := Option.some.inj hv'
    have : offs (fieldsOf s) i + csz v ≤ _ := offs_le _ _ _ (nthL_lt _ _ _ _ hn).2
    have hl : cs.length = cszS s := hl
    rw [cszS_eq] at hl
    exact path_len p v z _ _ _ _ _ (by simp; omega) hg2 hp2
  | .ix n :: p, .sl e, x, cs, A, A', cs', x', hl, hg, hp => by
    obtain ⟨z, hz, hg2⟩ := hg
    obtain ⟨a, len, cap, c, _, _, _, _, hcl, hp2⟩ := hp
    exact path_len p e z _ _ _ _ _ hcl hg2 hp2
  | .f i :: p, .int _, _, _, _, _, _, _, _, h, _ | .f i :: p, .bool, _, _, _, _, _, _, _, h, _ | .f i :: p, .str, _, _, _, _, _, _, _, h, _ | .f i :: p, .sl _, _, _, _, _, _, _, _, h, _ => h.elim
  | .ix i :: p, .int _, _, _, _, _, _, _, _, h, _ | .ix i :: p, .bool, _, _, _, _, _, _, _, h, _ | .ix i :: p, .str, _, _, _, _, _, _, _, h, _ | .ix i :: p, .st _, _, _, _, _, _, _, _, h, _ => h.elim

theorem Root_box {I : Bool → Nat → Prop} {w : World} {v : Value} {av : AV} {fp : List Nat} {tr : Ty} {xr : El tr} {gr : Tag} {A : Option Addr} {cs : List Value} {f : List Nat} (h : Root I w v av fp tr xr gr A cs f) {a : Addr} (ha : A = some a) : ∃ b, a = ⟨b, 0, none⟩ ∧ isBox w b cs ∧ fp = b :: f := by
  cases h with
  | own h1 h2 => cases ha
  | box h1 h2 h3 =>
    simp only [Option.some.injEq] at ha
    exact ⟨_, ha.symm, h2, rfl⟩

theorem storeVar_run {P : Program} {ty : Nat → Option Ty} {T : Nat} {t : Ty} (hty : TyAt P ty T t) {w : World} {b o et : Nat} {cur : Array Value} {cy : List Value} (hl : cy.length = csz t) (h1 : ∀ v ∈ cy, v.oneCell' = true) (hb : w.heap[b]? = some (.cells cur et (0, 0))) (hfit : o + csz t ≤ cur.size) :
    (Go.storeVar T ⟨b, o, none⟩ (mkV t cy)).run P w = .ok () (w.setRow b (splice cur o cy)) ∧ Wr w (w.setRow b (splice cur o cy)) b o cy cur et := by
  have hc := cells_mkV' hl h1
  have hs := run_storeCells_at P b o et cy 0 cur w hb (by omega) h1
  refine ⟨?_, ⟨hb, by omega, rfl⟩⟩
  simp only [Go.storeVar, Sem.run_bind, hty.sizeOf w, Result.andThen_ok, hc]
  simp [hl, hs, splice]

/-- A slot that owns something gets new content at a place; memory is written there. -/
theorem root_put {c : Cx} {σ : St} {a : Act} {w w2 : World} {X X' : List Nat} {F : Nat → List Nat} {G : Nat → Value} (h : Sim c σ a w X F G) {r b o et : Nat} {cy : List Value} {cur : Array Value} (hw : Wr w w2 b o cy cur et) {av : AV} {f' : List Nat}
    (hbr : b ∈ F r) (hn : (f' ++ X').Nodup) (hsub : ∀ q ∈ f' ++ X', q ∈ X ∨ q ∈ F r) (hv : SlotV c (σ.set r av) (val c a G) w2 (fun s => if s = r then f' else F s) G (val c a G r) f' av) : Sim c (σ.set r av) a w2 X' (fun s => if s = r then f' else F s) G := by
  have hnd := List.nodup_append.1 hn
  have hsz : w2.heap.size = w.heap.size := by rw [hw.is]; simp
  have hos : w2.os = w.os ∧ w2.tape = w.tape ∧ w2.output = w.output := by rw [hw.is]; exact ⟨rfl, rfl, rfl⟩
  have hlt : ∀ q ∈ f' ++ X', q < w2.heap.size ∧ (q ∈ X ∨ (∃ s, s = r ∧ q ∈ F s) ∨ w.heap.size ≤ q) := by
    intro q hq
    rw [hsz]
    rcases hsub q hq with h1 | h1
    · exact ⟨(h.xrng q h1).1, .inl h1⟩
    · exact ⟨(h.rng r q h1).1, .inr (.inl ⟨r, rfl, h1⟩)⟩
  refine h.multi (fun s => s = r) (fun s hs => St.set_other _ _ _ _ hs) (fun s hs => by subst hs; simp) (fun _ _ => rfl) (fun s hs => by simp [hs]) (fun q hq hqn _ => hw.other q (by rintro rfl; exact hqn r rfl hbr)) (fun _ _ _ _ _ => rfl) (Nat.le_of_eq hsz.symm) hos.1 hos.2.1 hos.2.2 h.defers h.size (fun _ _ => rfl)
    (fun s hs => by simp [hs]; exact hnd.1) (fun s hs q hq => hlt q (by simp [hs] at hq; simp [hq])) (fun s s' hs hs' hne => absurd (hs.trans hs'.symm) hne) hnd.2.1 (fun q hq => hlt q (by simp [hq])) (fun s hs q hq hq' => ?_) (fun s hs => by subst hs; simpa using hv)
  simp [hs] at hq
  exact hnd.2.2 q hq q hq' rfl

theorem fin_store {c : Cx} {σ σ' : St} {a : Act} {w w2 : World} {X : List Nat} {F : Nat → List Nat} {G : Nat → Value} (h : Sim c σ a w2 X F G) {Q : Exit → Act → World → Prop} {o : Oper} (hx : (execOp a.eval o).run c.P w = .ok .skip w2) (hr : (setD c.E o.dst .dead .done).run σ = some σ') : OpOK c σ' Q a w o := by
  refine OpOK.skip hx ?_
  obtain ⟨F', h'⟩ := fin_set h hr (Frm.refl _ _) (f := []) (by simp) (by simp) (v := undef) trivial
  exact ⟨F', G, h'⟩

theorem op_store {c : Cx} (he : EnvOK c) (ht : TyOK c.P c.E.ty) {σ σ' : St} {a : Act} {w : World} {F : Nat → List Nat} {G : Nat → Value} (h : Sim c σ a w [] F G) {Q : Exit → Act → World → Prop} {o : Oper} {T : Nat} {p x : Operand} (ho : o.op = .store T p x)
    (hr : (storeK c.E (c.E.ty T) p x (setD c.E o.dst .dead .done)).run σ = some σ') : OpOK c σ' Q a w o := by
  unfold storeK at hr
  obtain ⟨av, s, n, hop, hr⟩ := rd_run he h hr
  have hsv := hop.sv
  cases av with
  | box _ _ _ =>
    cases s with
    | none => simp [Mp.run] at hr
    | some s =>
      obtain ⟨_, _, e3, _⟩ := hop.at_ s rfl
      obtain ⟨u, y, g, σ1, F1, f, cs, hr, h1, hm, k1, k2, k3⟩ := takeK_run he h hr
      rw [List.append_nil] at h1
      simp only [Mp.run] at hr
      generalize hroot : (σ1 s).1 = root at hr
      cases root with
      | box tr xr gr =>
        simp only at hr
        obtain ⟨hty, hr⟩ := chk_run hr
        cases hc : castE u tr y with
        | none => simp [hc, Mp.run] at hr
        | some z =>
          simp only [hc, Mp.run] at hr
          have hr9 := hr
          clear hr
          obtain ⟨rfl, rfl⟩ := cast_some hc
          have hsl := h1.slot s
          rw [hroot] at hsl
          obtain ⟨b, c0, f0, m1, ⟨et, m2⟩, m3, m4⟩ := hsl
          have hl := TR_len _ _ _ _ _ k2
          have hl0 := TR_len _ _ _ _ _ m3
          obtain ⟨d, hd⟩ := TR_view (J := fun _ => True) (fun _ _ _ => trivial) _ _ _ _ _ k3 (fun _ _ => trivial) k2
          obtain ⟨q1, q2⟩ := storeVar_run (P := c.P) (ht _ _ (tyIs_eq hty)) hl (oneCells _ _ _ _ hd) m2 (o := 0) (by simp; omega)
          have hbF : b ∈ F1 s := by rw [m4]; simp
          have hbX : b ∉ f := fun hb => h1.xdisj s b hbF hb
          have hwI : ∀ k q, c.I k q → (w.setRow b (splice c0.toArray 0 cs)).heap[q]? = w.heap[q]? := fun k q hq => q2.other q (by rintro rfl; exact Cx.not_ip (h1.rng s _ hbF).2 (h1.I_ip k _ hq))
          have h2 : Sim c (σ1.set s (.box u z g)) a (w.setRow b (splice c0.toArray 0 cs)) [] (fun r => if r = s then b :: f else F1 r) G := by
            refine root_put h1 q2 hbF (f' := b :: f) (X' := []) ?_ ?_ ?_
            · rw [List.append_nil]; exact List.nodup_cons.2 ⟨hbX, h1.xnodup⟩
            · intro q hq
              simp only [List.append_nil, List.mem_cons] at hq
              rcases hq with rfl | hq
              · exact .inr hbF
              · exact .inl hq
            · refine ⟨b, cs, f, m1, ⟨et, ?_⟩, ?_, rfl⟩
              · rw [q2.at]
                congr 2
                apply Array.toList_inj.1
                simp [splice]; omega
              · exact TR_same hwI _ _ _ _ _ (fun q hq => q2.other q (by rintro rfl; exact hbX hq)) k2
          refine fin_store h2 ?_ hr9
          have e1 : a.eval p = .pointer (some ⟨b, 0, none⟩) := e3.trans m1
          simp only [execOp, ho, Instr.storeAt, e1, Instr.sureAddr, k1, Sem.run_bind, Sem.run_pure, Result.andThen_ok, q1]
      | _ => simp [Mp.run] at hr
  | ptr t' x' r m up =>
    obtain ⟨u, y, g, σ1, F1, f, cs, hr, h1, hm, k1, k2, k3⟩ := takeK_run he h hr
    rw [List.append_nil] at h1
    simp only [Mp.run] at hr
    obtain ⟨hck, hr⟩ := chk_run hr
    simp only [Bool.and_eq_true] at hck
    have hmm := Nat.eq_of_beq_eq_true hck.1
    cases hc : castE u t' y with
    | none => simp [hc, Mp.run] at hr
    | some z =>
      simp only [hc] at hr
      have hr9 := hr
      clear hr
      obtain ⟨rfl, rfl⟩ := cast_some hc
      obtain ⟨_, hl1⟩ := hsv.mono h.kip hm
      obtain ⟨ad, cs0, tr, xr, gr, A, rc, fr, m1, m2, m3, m4⟩ := hl1 hmm
      have hl := TR_len _ _ _ _ _ k2
      obtain ⟨d, hd⟩ := TR_view (J := fun _ => True) (fun _ _ _ => trivial) _ _ _ _ _ k3 (fun _ _ => trivial) k2
      have hone := oneCells _ _ _ _ hd
      have hrn := h1.nodup r
      -- the write, and the root's content behind it
      have main : ∀ (tr' : Ty) (w' : El tr') (xr2 : El tr) (gr' : Tag), updUp up u z = some ⟨tr', w'⟩ → castE tr' tr w' = some xr2 → setT tr gr (stepsOf up) g = some gr' → wrtT tr gr (stepsOf up) = true →
          ∃ b o2 cur et, ad = ⟨b, o2, none⟩ ∧ b ∈ F1 r ∧ Wr w (w.setRow b (splice cur o2 cs)) b o2 cs cur et ∧ (Go.storeVar T ad (mkV u cs)).run c.P w = .ok () (w.setRow b (splice cur o2 cs)) ∧
            ∃ rc2 f2, TR (w.setRow b (splice cur o2 cs)) c.I gr' tr xr2 rc2 f2 ∧ rc2.length = rc.length ∧ (A = none → rc2 = rc) ∧ f2.Nodup ∧ (∀ q ∈ f2, q ∈ f ∨ q ∈ fr) ∧ (∀ a, A = some a → locA (w.setRow b (splice cur o2 cs)) a rc2) ∧ ((b ∈ fr ∧ rc2 = rc) ∨ ∃ a, A = some a ∧ b = a.block) := by
        intro tr' w' xr2 gr' hup hc2 hset hwr
        obtain ⟨z2, hput, hz2⟩ := Chain.put _ _ _ _ _ _ _ _ m3 hup
        have e2 := castE_eq hc2
        rw [hz2] at e2
        simp only [Sigma.mk.injEq, heq_eq_eq, true_and] at e2
        subst e2
        obtain ⟨htr, hA⟩ := Root_loc m2
        have hcs0 : cs0.length = csz u := path_len _ _ _ _ _ _ _ _ (TR_len _ _ _ _ _ htr) m3.get m4
        have hfr := Root_nodup m2 hrn
        have hAw : ∀ a, A = some a → ∃ b o cur et, a = ⟨b, o, none⟩ ∧ w.heap[b]? = some (.cells cur et (0, 0)) ∧ o + rc.length ≤ cur.size := by
          intro a1 ha1
          obtain ⟨b1, r1, ⟨et1, r2⟩, r3⟩ := Root_box m2 ha1
          exact ⟨b1, 0, rc.toArray, et1, r1, r2, by simp⟩
        have hAd : ∀ a, A = some a → a.spot = none ∧ a.block ∉ fr ∧ locA w a rc := by
          intro a1 ha1
          obtain ⟨b1, r1, r2, r3⟩ := Root_box m2 ha1
          rw [r3] at hrn
          subst r1
          exact ⟨rfl, (List.nodup_cons.1 hrn).1, hA _ ha1⟩
        obtain ⟨b, o2, cur, et, rfl, n1, n2, n3⟩ := path_wr hcs0 _ _ _ _ _ _ _ _ htr hAw m3.get m4 hwr
        obtain ⟨q1, q2⟩ := storeVar_run (P := c.P) (ht _ _ (tyIs_eq hck.2)) hl hone n1 n2
        have hbF : b ∈ F1 r := by
          rcases n3 with n3 | ⟨a1, ha1, rfl⟩
          · exact Root_sub m2 b n3
          · obtain ⟨b1, r1, r2, r3⟩ := Root_box m2 ha1
            rw [r3, r1]; simp
        have hbX : b ∉ f := fun hb => h1.xdisj r b hbF hb
        have hbI : ∀ k, ¬ c.I k b := fun k hk => Cx.not_ip (h1.rng r _ hbF).2 (h1.I_ip k _ hk)
        have hy := TR_same (w' := w.setRow b (splice cur o2 cs)) (fun k q hq => q2.other q (by rintro rfl; exact hbI k hq)) _ _ _ _ _ (fun q hq => q2.other q (by rintro rfl; exact hbX hq)) k2
        obtain ⟨rc2, pre, f', post, s1, s2, s3, s4, s5, s6⟩ := lens_set q2 hl hy hbI _ _ _ _ _ _ _ _ _ _ _ htr hfr hAd m3.get hput m4 hwr hset
        refine ⟨b, o2, cur, et, rfl, hbF, q2, q1, rc2, _, s2, s4, s5, ?_, ?_, s3, ?_⟩
        · have hff : f.Nodup := h1.xnodup
          rw [s1] at hfr
          have e1 := List.nodup_append.1 hfr
          have e2 := List.nodup_append.1 e1.2.1
          have hdis : ∀ q ∈ f, q ∉ fr := fun q hq hq' => h1.xdisj r q (Root_sub m2 q hq') hq
          refine List.nodup_append.2 ⟨e1.1, List.nodup_append.2 ⟨hff, e2.2.1, ?_⟩, ?_⟩
          · rintro q hq q' hq' rfl
            exact hdis q hq (by rw [s1]; simp [hq'])
          · rintro q hq q' hq' rfl
            rcases List.mem_append.1 hq' with hq' | hq'
            · exact hdis q hq' (by rw [s1]; simp [hq])
            · exact e1.2.2 q hq q (by simp [hq']) rfl
        · intro q hq
          simp only [List.mem_append] at hq
          rcases hq with hq | hq | hq
          · exact .inr (by rw [s1]; simp [hq])
          · exact .inl hq
          · exact .inr (by rw [s1]; simp [hq])
        · rcases s6 with s6 | ⟨a1, r1, r2, _⟩
          · exact .inl s6
          · exact .inr ⟨a1, r1, r2⟩
      have exec : ∀ (b o2 : Nat), ad = ⟨b, o2, none⟩ → ∀ w2, (Go.storeVar T ad (mkV u cs)).run c.P w = .ok () w2 → (execOp a.eval o).run c.P w = .ok .skip w2 := by
        intro b o2 _ w2 hst
        simp only [execOp, ho, Instr.storeAt, m1, Instr.sureAddr, k1, Sem.run_bind, Sem.run_pure, Result.andThen_ok, hst]
      generalize hroot : (σ1 r).1 = root at hr9
      obtain ⟨Fr, hFr⟩ : ∃ Fr, Fr = F1 r := ⟨_, rfl⟩
      have m2' := m2
      rw [hroot, ← hFr] at m2'
      cases m2' with
      | @own tr xr gr rc fr q1 q2 =>
        cases hup : updUp up u z with
        | none => simp [hup, Mp.run] at hr9
        | some zz =>
          obtain ⟨tr', w'⟩ := zz
          simp only [hup] at hr9
          cases hc2 : castE tr' tr w' with
          | none => simp [hc2, Mp.run] at hr9
          | some xr2 =>
            cases hset : setT tr gr (stepsOf up) g with
            | none => simp [hc2, hset, Mp.run] at hr9
            | some gr' =>
              simp only [hc2, hset] at hr9
              obtain ⟨hwr, hr9⟩ := chk_run hr9
              simp only [Mp.run] at hr9
              obtain ⟨b, o2, cur, et, rfl, hbF, hw2, hst, rc2, f2, t1, t2, t3, t4, t5, t6, t7⟩ := main tr' w' xr2 gr' hup hc2 hset hwr
              have hrc : rc2 = rc := t3 rfl
              subst hrc
              have h2 : Sim c (σ1.set r (.own tr xr2 gr')) a (w.setRow b (splice cur o2 cs)) [] (fun s => if s = r then f2 else F1 s) G := by
                refine root_put h1 hw2 hbF (f' := f2) (X' := []) (by simpa using t4) ?_ ⟨rc2, q1, t1⟩
                intro q hq
                rw [List.append_nil] at hq
                exact (t5 q hq).imp id (fun hq => hFr ▸ hq)
              exact fin_store h2 (exec b o2 rfl _ hst) hr9
      | @box tr xr gr rc fr b0 q0 q1 q2 =>
        cases hup : updUp up u z with
        | none => simp [hup, Mp.run] at hr9
        | some zz =>
          obtain ⟨tr', w'⟩ := zz
          simp only [hup] at hr9
          cases hc2 : castE tr' tr w' with
          | none => simp [hc2, Mp.run] at hr9
          | some xr2 =>
            cases hset : setT tr gr (stepsOf up) g with
            | none => simp [hc2, hset, Mp.run] at hr9
            | some gr' =>
              simp only [hc2, hset] at hr9
              obtain ⟨hwr, hr9⟩ := chk_run hr9
              simp only [Mp.run] at hr9
              obtain ⟨b, o2, cur, et, rfl, hbF, hw2, hst, rc2, f2, t1, t2, t3, t4, t5, t6, t7⟩ := main tr' w' xr2 gr' hup hc2 hset hwr
              obtain ⟨et0, q1⟩ := q1
              have hb0F : b0 ∈ F1 r := by rw [← hFr]; simp
              have hb0 : b0 ∉ f2 := by
                intro hb
                rcases t5 b0 hb with hb | hb
                · exact h1.xdisj r b0 hb0F hb
                · rw [← hFr] at hrn; exact (List.nodup_cons.1 hrn).1 hb
              have hbox : isBox (w.setRow b (splice cur o2 cs)) b0 rc2 := by
                by_cases hbb : b = b0
                · subst hbb
                  refine ⟨et, ?_⟩
                  have hat := hw2.at
                  have hcur := hw2.obj
                  rw [q1] at hcur
                  simp only [Option.some.injEq, Obj.cells.injEq] at hcur
                  obtain ⟨rfl, rfl, _⟩ := hcur
                  rw [hat]
                  congr 2
                  apply Array.toList_inj.1
                  have hsz := splice_size (cur := rc.toArray) (o := o2) (cy := cs) hw2.fit
                  refine loc_unique (w := w.setRow b (splice rc.toArray o2 cs)) (a := ⟨b, 0, none⟩) ?_ (by simpa using t6 _ rfl) (by simpa [t2] using hsz)
                  intro j v hj
                  rw [add_mk]
                  simpa [World.cell?, hat] using hj
                · refine ⟨et0, ?_⟩
                  rw [hw2.other b0 (fun e => hbb e.symm), q1]
                  rcases t7 with ⟨_, rfl⟩ | ⟨a1, r1, r2⟩
                  · rfl
                  · simp only [Option.some.injEq] at r1
                    subst r1
                    exact absurd r2 hbb
              have h2 : Sim c (σ1.set r (.box tr xr2 gr')) a (w.setRow b (splice cur o2 cs)) [] (fun s => if s = r then b0 :: f2 else F1 s) G := by
                refine root_put h1 hw2 hbF (f' := b0 :: f2) (X' := []) (by rw [List.append_nil]; exact List.nodup_cons.2 ⟨hb0, t4⟩) ?_ ⟨b0, rc2, f2, q0, hbox, t1, rfl⟩
                intro q hq
                rw [List.append_nil] at hq
                rcases List.mem_cons.1 hq with rfl | hq
                · exact .inr hb0F
                · exact (t5 q hq).imp id (fun hq => by rw [← hFr]; simp [hq])
              exact fin_store h2 (exec b o2 rfl _ hst) hr9
  | _ => simp [Mp.run] at hr
end Net

/- A part of what is owned changes in memory, its cells stay. -/
namespace Net
open Go
set_option linter.unusedVariables false
set_option linter.unusedSectionVars false

theorem lens_mem {w : World} {I : Bool → Nat → Prop} {S : Nat → Prop} {u : Ty} : ∀ (p : List Step) (g : Tag) (t : Ty) (x : El t) (cs : List Value) (fp : List Nat) (A A' : Option Addr) (x' : El u) (cs' : List Value) (g2 : Tag),
    TR w I g t x cs fp → fp.Nodup → GetAt t x p u x' → PathTo w S t A cs p A' cs' → wrtT t g p = true → ownT u (tagAt g p) = true → setT t g p .own = some g2 →
    ∃ f' pre post, fp = pre ++ (f' ++ post) ∧ (∃ d, RO w d u x' cs' f') ∧ ∀ (w2 : World) (y : El u) (fy : List Nat) (x2 : El t), (∀ k b, I k b → w2.heap[b]? = w.heap[b]?) → (∀ b ∈ pre ++ post, w2.heap[b]? = w.heap[b]?) → (∃ d, RO w2 d u y cs' fy) → PutAt t x p u y x2 → TR w2 I g2 t x2 cs (pre ++ (fy ++ post))
  | [], g, t, x, cs, fp, A, A', x', cs', g2, h, hnd, hg, hp, hwr, ho, hs => by
    simp only [GetAt, Sigma.mk.injEq] at hg
    obtain ⟨rfl, hg⟩ := hg
    have hg := eq_of_heq hg
    subst hg
    obtain ⟨rfl, rfl⟩ := hp
    have e : g2 = .own := by cases t <;> simpa [setT] using hs.symm
    subst e
    have ho' : ownT t g = true := by cases g <;> exact ho
    refine ⟨fp, [], [], by simp, TR_own _ _ _ _ _ ho' (ownT_alive _ _ ho') h, ?_⟩
    intro w2 y fy x2 _ _ hy hput
    simp only [PutAt, Sigma.mk.injEq, heq_eq_eq, true_and] at hput
    subst hput
    obtain ⟨d, hd⟩ := hy
    simpa using TR_of_own hd
  | .f i :: p, g, .st s, x, cs, fp, A, A', x', cs', g2, h, hnd, hg, hp, hwr, ho, hs => by
    obtain ⟨v, z, hn, hg2⟩ := hg
    obtain ⟨v', hu, hp2⟩ := hp
    obtain ⟨gi, pre, c, post, fpre, f, fpost, hgi, hu2, rfl, rfl, hlen, hc, hset⟩ := TR_field h hn
    rw [hu2] at hu
    obtain rfl := Option.some.inj hu
    have hcl := TR_len _ _ _ _ _ hc
    have e : ((pre ++ (c ++ post)).drop (offs (fieldsOf s) i)).take (csz v) = c := by
      rw [← hlen, List.drop_left, ← hcl, List.take_left]
    rw [e] at hp2
    simp only [wrtT, hu2, hgi] at hwr
    simp only [setT, hu2, hgi, Option.map_eq_some_iff] at hs
    obtain ⟨gi2, hgi2, rfl⟩ := hs
    have hnf : f.Nodup := (List.nodup_append.1 (List.nodup_append.1 hnd).2.1).1
    have ho2 : ownT u (tagAt gi p) = true := by rw [← tagAt_split (TR_not_os h) hgi]; exact ho
    obtain ⟨f', p1, p2, rfl, hro, hupd⟩ := lens_mem p gi v z c f _ _ x' cs' gi2 hc hnf hg2 hp2 hwr ho2 hgi2
    refine ⟨f', fpre ++ p1, p2 ++ fpost, by simp, hro, ?_⟩
    intro w2 y fy x2 hI hB hy hput
    obtain ⟨v2, z', z2, l, hn2, hput2, hsl, rfl⟩ := hput
    rw [hn] at hn2
    simp only [Option.some.injEq, Sigma.mk.injEq] at hn2
    obtain ⟨rfl, hz⟩ := hn2
    have hz := eq_of_heq hz
    subst hz
    have h1 := hupd w2 y fy z2 hI (fun b hb => hB b (by simp only [List.mem_append] at hb ⊢; rcases hb with hb | hb; exact .inl (.inr hb); exact .inr (.inl hb))) hy hput2
    have h2 := hset w2 gi2 z2 c (p1 ++ (fy ++ p2)) l hI (fun b hb => hB b (by simp only [List.mem_append] at hb ⊢; rcases hb with hb | hb; exact .inl (.inl hb); exact .inr (.inr hb))) h1 hsl
    simpa using h2
  | .ix n :: p, g, .sl e, xs, cs, fp, A, A', x', cs', g2, h, hnd, hg, hp, hwr, ho, hs => by
    obtain ⟨rfl, hwr2⟩ := wrt_ix hwr
    obtain ⟨rfl, gz, hgz, hgo⟩ := set_ix hs
    obtain ⟨z, hz, hg2⟩ := hg
    obtain ⟨a, len, cap, c, rfl, hn, _, hloc, hcl, hp2⟩ := hp
    simp only [TR] at h
    obtain ⟨d, hd⟩ := h
    cases d with
    | zero => exact hd.elim
    | succ d =>
      rcases hd with ⟨h1, _⟩ | ⟨b, off, cap2, cur, et, f, h1, h2, h3, h4⟩
      · simp at h1
      · simp at h1
        obtain ⟨rfl, rfl, rfl⟩ := h1
        subst h3
        obtain ⟨f1, fn, f3, rfl, h5, h6⟩ := EL_split _ _ _ n z h4 hz
        have hchunk : locA w ((⟨b, off, none⟩ : Addr).add (n * csz e)) (((cur.toList.drop off).drop (n * csz e)).take (csz e)) := locA_take _ (locA_drop _ (arr_loc h2))
        have hce := loc_unique hloc hchunk (by rw [hcl, RO_len _ _ _ _ _ h5])
        rw [← hce] at h5
        have hnd2 := List.nodup_cons.1 hnd
        have hnd4 := List.nodup_append.1 (List.nodup_append.1 hnd2.2).2.1
        have ho2 : ownT u (tagAt .own p) = true := by rw [tagAt_own]; exact ho
        obtain ⟨f', p1, p2, rfl, hro, hupd⟩ := lens_mem p .own e z c fn _ _ x' cs' gz (TR_of_own h5) hnd4.1 hg2 hp2 hwr2 ho2 hgz
        refine ⟨f', b :: (f1 ++ p1), p2 ++ f3, by simp, hro, ?_⟩
        intro w2 y fy x2 hI hB hy hput
        obtain ⟨z', z2, hz', hput2, rfl⟩ := hput
        rw [hz] at hz'
        obtain rfl := Option.some.inj hz'
        have k1 := hupd w2 y fy z2 hI (fun q hq => hB q (by simp only [List.mem_append, List.mem_cons] at hq ⊢; rcases hq with hq | hq; exact .inl (.inr (.inr hq)); exact .inr (.inl hq))) hy hput2
        obtain ⟨d2, hd2⟩ := TR_own gz e z2 c _ hgo (ownT_alive _ _ hgo) k1
        have hb2 : w2.heap[b]? = some (.cells cur et (0, 0)) := by rw [hB b (by simp)]; exact h2.obj
        have hEL := h6 (RO w2 (max d d2) e) (cur.toList.drop off) z2 (p1 ++ (fy ++ p2)) (fun z c k hk hh => RO_le (Nat.le_max_left _ _) (RO_same _ _ _ _ _ (fun q hq => hB q (by
          have := hk q hq
          simp only [List.mem_append, List.mem_cons] at this ⊢
          rcases this with hq | hq
          · exact .inl (.inr (.inl hq))
          · exact .inr (.inr hq))) hh)) (fun j _ _ => rfl) (by rw [← hce]; exact RO_le (Nat.le_max_right _ _) hd2)
        refine TR_of_own (d := max d d2 + 1) (.inr ⟨b, off, cap, cur, et, f1 ++ ((p1 ++ (fy ++ p2)) ++ f3), by simp, ?_, by simp, hEL⟩)
        exact ⟨hb2, h2.fit, by simpa using h2.len, h2.cap⟩
  | .f i :: p, _, .int _, _, _, _, _, _, _, _, _, _, _, h, _, _, _, _ | .f i :: p, _, .bool, _, _, _, _, _, _, _, _, _, _, h, _, _, _, _ | .f i :: p, _, .str, _, _, _, _, _, _, _, _, _, _, h, _, _, _, _ | .f i :: p, _, .sl _, _, _, _, _, _, _, _, _, _, _, h, _, _, _, _ => h.elim
  | .ix i :: p, _, .int _, _, _, _, _, _, _, _, _, _, _, h, _, _, _, _ | .ix i :: p, _, .bool, _, _, _, _, _, _, _, _, _, _, h, _, _, _, _ | .ix i :: p, _, .str, _, _, _, _, _, _, _, _, _, _, h, _, _, _, _ | .ix i :: p, _, .st _, _, _, _, _, _, _, _, _, _, _, h, _, _, _, _ => h.elim
end Net

/- Arguments of a call. -/
namespace Net
open Go
set_option linter.unusedVariables false
set_option linter.unusedSectionVars false

theorem isIo_iff {d : Nat} : ∀ {l : List Nat}, isIo d l = true ↔ d ∈ l
  | [] => by simp [isIo]
  | m :: l => by
    simp only [isIo]
    cases hb : Nat.beq d m with
    | true => have := Nat.eq_of_beq_eq_true hb; simp [this]
    | false =>
      have : d ≠ m := by rintro rfl; simp at hb
      simp [isIo_iff, this]
theorem isIo_not {d : Nat} {l : List Nat} (h : (!isIo d l) = true) : d ∉ l := by
  intro hm
  rw [isIo_iff.2 hm] at h
  cases h

theorem tagEqs_TRL {w : World} {c : Cx} : ∀ (gs hs : List Tag) (ts : List Ty) (x : HL ts) (cs : List Value) (f : List Nat), argsK.tagEqs gs hs = true → noIps hs = true → TRL w c.I gs ts x cs f → TRL w (KI c.K) hs ts x cs f
  | [], [], ts, x, cs, f, _, _, h => by
    cases ts with
    | nil => simpa only [TRL] using h
    | cons t ts => simp [TRL] at h
  | g :: gs, g' :: hs, [], x, cs, f, _, _, h => by simp [TRL] at h
  | g :: gs, g' :: hs, t :: ts, x, cs, f, he, hn, h => by
    simp only [TRL] at h ⊢
    obtain ⟨c1, c2, f1, f2, rfl, rfl, h1, h2⟩ := h
    simp only [argsK.tagEqs, Bool.and_eq_true] at he
    simp only [noIps, Bool.and_eq_true] at hn
    refine ⟨c1, c2, f1, f2, rfl, rfl, ?_, tagEqs_TRL gs hs ts _ _ _ he.2 hn.2 h2⟩
    have he1 := he.1
    cases g <;> cases g' <;> simp only [reduceCtorEq] at he1
    · have := eq_of_beq he1
      subst this
      exact TR_noIp (I := c.I) (I' := KI c.K) (fun b hb => hb) _ _ _ _ _ hn.1 h1
    · simpa only [TR] using h1
  | [], _ :: _, _, _, _, _, h, _, _ | _ :: _, [], _, _, _, _, h, _, _ => by simp [argsK.tagEqs] at h
theorem tagEq_TR {w : World} {c : Cx} {t : Ty} {g g' : Tag} {x : El t} {cs : List Value} {f : List Nat} (he : argsK.tagEq t g g' = true) (hn : noIp g' = true) (h : TR w c.I g t x cs f) : TR w (KI c.K) g' t x cs f := by
  cases g' with
  | own =>
    have ho : ownT t g = true := by cases g <;> exact he
    obtain ⟨d, hd⟩ := TR_own _ _ _ _ _ ho (ownT_alive _ _ ho) h
    exact TR_of_own hd
  | imm b =>
    cases g <;> simp only [argsK.tagEq, reduceCtorEq] at he
    have := eq_of_beq he
    subst this
    exact TR_noIp (I := c.I) (I' := KI c.K) (fun b hb => hb) _ _ _ _ _ hn h
  | dead => cases g <;> simp [argsK.tagEq] at he
  | os g' => cases g <;> simp [argsK.tagEq] at he
  | st hs =>
    cases g <;> simp only [argsK.tagEq, reduceCtorEq] at he
    cases t with
    | st s =>
      simp only [TR] at h ⊢
      exact tagEqs_TRL _ _ _ _ _ _ he (by simpa only [noIp] using hn) h
    | _ => simp [TR] at h
theorem KI_I {c : Cx} : ∀ k b, KI c.K k b → c.I k b
  | true, b, h => h
  | false, b, h => h.elim

/-- A slot that was written: what it owns behind the call. -/
structure Back (c : Cx) (w2 : World) (v : Value) (f2 : List Nat) (av : AV) : Prop where
  sv : ∀ σ vl F G, SlotV c σ vl w2 F G v f2 av

structure ArgsRun (c : Cx) (σ : St) (a : Act) (w : World) (F : Nat → List Nat) (G : Nat → Value) (ps : List PK) (vals : List Value) (vs ws : List Nat) (x : Args ps) (put : IoL ps → Mp → Mp) (vs' sl fp : List Nat) : Prop where
  args : ArgsOK c.P w (fun b => c.Ip b ∨ ∃ r ∈ vs', b ∈ F r) c.K ps x vals fp
  sub : ∀ r ∈ vs, r ∈ vs'
  new : ∀ r ∈ vs', r ∈ vs ∨ r ∉ ws
  sln : sl.Nodup
  slo : ∀ s ∈ sl, s ∉ ws ∧ s ∉ vs'
  fpn : fp.Nodup
  fps : ∀ b ∈ fp, ∃ s ∈ sl, b ∈ F s
  back : ∀ io m σ0 σ', (∀ s ∈ sl, σ0 s = σ s) → (put io m).run σ0 = some σ' → ∃ σ2, m.run σ2 = some σ' ∧ (∀ r, r ∉ sl → σ2 r = σ0 r) ∧ (∀ s ∈ sl, (σ s).2 < (σ2 s).2) ∧
    ∀ w2 fio, (∀ b, c.Ip b → w2.heap[b]? = w.heap[b]?) → (∀ s ∈ sl, ∀ b ∈ F s, b ∉ fp → w2.heap[b]? = w.heap[b]?) → IoOK w2 c.K ps io vals fio → fio.Nodup → (∀ s ∈ sl, ∀ b ∈ F s, b ∉ fp → b ∉ fio) →
      ∃ F2 : Nat → List Nat, (∀ s ∈ sl, (F2 s).Nodup ∧ Back c w2 (val c a G s) (F2 s) (σ2 s).1 ∧ ∀ b ∈ F2 s, (b ∈ F s ∧ b ∉ fp) ∨ b ∈ fio) ∧ (∀ s ∈ sl, ∀ s' ∈ sl, s ≠ s' → ∀ b ∈ F2 s, b ∉ F2 s')

/-- One more value that is read. -/
theorem ArgsRun.read {c : Cx} {σ : St} {a : Act} {w : World} {F : Nat → List Nat} {G : Nat → Value} {ps : List PK} {vals : List Value} {vs0 vs ws : List Nat} {x : Args ps} {put : IoL ps → Mp → Mp} {vs' sl fp : List Nat} (h : ArgsRun c σ a w F G ps vals vs ws x put vs' sl fp)
    (hv0 : ∀ r ∈ vs0, r ∈ vs) (hv : ∀ r ∈ vs, r ∈ vs0 ∨ r ∉ ws) {t : Ty} {esc : Bool} {d : Nat} {y : El t} {cs : List Value} (hr : RI w (match esc with | true => c.K | false => fun b => c.Ip b ∨ ∃ r ∈ vs', b ∈ F r) d t y cs) :
    ArgsRun c σ a w F G (.val t esc :: ps) (mkV t cs :: vals) vs0 ws (y, x) put vs' sl fp where
  args := ⟨d, cs, vals, rfl, by cases esc <;> exact hr, h.args⟩
  sub := fun r hr => h.sub r (hv0 r hr)
  new := fun r hr => (h.new r hr).elim (hv r) .inr
  sln := h.sln
  slo := h.slo
  fpn := h.fpn
  fps := h.fps
  back := fun io m σ0 σ' h0 hr => by
    obtain ⟨σ2, h1, h2, h3, h4⟩ := h.back io m σ0 σ' h0 hr
    refine ⟨σ2, h1, h2, h3, fun w2 fio k1 k2 k3 k4 k5 => ?_⟩
    obtain ⟨v, vs1, e, k3⟩ := k3
    simp only [List.cons.injEq] at e
    obtain ⟨rfl, rfl⟩ := e
    exact h4 w2 fio k1 k2 k3 k4 k5

/-- One more slot that is written: the way back. -/
theorem back_cons {c : Cx} {σ : St} {a : Act} {w : World} {X : List Nat} {F : Nat → List Nat} {G : Nat → Value} (hsim : Sim c σ a w X F G) {ps : List PK} {vals : List Value} {vs ws : List Nat} {x : Args ps} {put : IoL ps → Mp → Mp} {vs' sl fp : List Nat} {s : Nat} (h : ArgsRun c σ a w F G ps vals vs (s :: ws) x put vs' sl fp)
    {t : Ty} {avz : El t → Option AV} {fh : List Nat} (hfh : ∀ b ∈ fh, b ∈ F s) {Head : World → El t → List Nat → Prop}
    (hH : ∀ w2 z fh2 av, (∀ b, c.Ip b → w2.heap[b]? = w.heap[b]?) → (∀ b ∈ F s, b ∉ fh → w2.heap[b]? = w.heap[b]?) → fh2.Nodup → (∀ b ∈ F s, b ∉ fh → b ∉ fh2) → Head w2 z fh2 → avz z = some av → ∃ f2, f2.Nodup ∧ Back c w2 (val c a G s) f2 av ∧ ∀ b ∈ f2, (b ∈ F s ∧ b ∉ fh) ∨ b ∈ fh2)
    (z : El t) (io : IoL ps) (m : Mp) (σ0 σ' : St) (h0 : ∀ r ∈ s :: sl, σ0 r = σ r) (hr : (match avz z with | some av => Mp.set s av (put io m) | none => .fail).run σ0 = some σ') :
    ∃ σ2, m.run σ2 = some σ' ∧ (∀ r, r ∉ s :: sl → σ2 r = σ0 r) ∧ (∀ r ∈ s :: sl, (σ r).2 < (σ2 r).2) ∧
    ∀ w2 fh2 fio, (∀ b, c.Ip b → w2.heap[b]? = w.heap[b]?) → (∀ r ∈ s :: sl, ∀ b ∈ F r, b ∉ fh ++ fp → w2.heap[b]? = w.heap[b]?) → Head w2 z fh2 → IoOK w2 c.K ps io vals fio → (fh2 ++ fio).Nodup → (∀ r ∈ s :: sl, ∀ b ∈ F r, b ∉ fh ++ fp → b ∉ fh2 ++ fio) →
      ∃ F2 : Nat → List Nat, (∀ r ∈ s :: sl, (F2 r).Nodup ∧ Back c w2 (val c a G r) (F2 r) (σ2 r).1 ∧ ∀ b ∈ F2 r, (b ∈ F r ∧ b ∉ fh ++ fp) ∨ b ∈ fh2 ++ fio) ∧ (∀ r ∈ s :: sl, ∀ r' ∈ s :: sl, r ≠ r' → ∀ b ∈ F2 r, b ∉ F2 r') := by
  have hs : s ∉ sl := fun hs => (h.slo s hs).1 (by simp)
  have hfpF : ∀ b ∈ F s, b ∉ fp := by
    intro b hb hb'
    obtain ⟨r, hr, hb2⟩ := h.fps b hb'
    exact hsim.disj s r (by rintro rfl; exact hs hr) b hb hb2
  have hfhF : ∀ r ∈ sl, ∀ b ∈ F r, b ∉ fh := fun r hr b hb hb' => hsim.disj s r (by rintro rfl; exact hs hr) b (hfh b hb') hb
  cases hav : avz z with
  | none => simp [hav, Mp.run] at hr
  | some av =>
    simp only [hav, Mp.run] at hr
    obtain ⟨σ2, h1, h2, h3, h4⟩ := h.back io m (σ0.set s av) σ' (fun r hr' => by rw [St.set_other _ _ _ _ (by rintro rfl; exact hs hr')]; exact h0 r (by simp [hr'])) hr
    have hσs : σ2 s = (av, (σ s).2 + 1) := by rw [h2 s hs, St.set_same, h0 s (by simp)]
    refine ⟨σ2, h1, ?_, ?_, ?_⟩
    · intro r hr
      simp only [List.mem_cons, not_or] at hr
      rw [h2 r hr.2, St.set_other _ _ _ _ hr.1]
    · intro r hr
      rcases List.mem_cons.1 hr with rfl | hr
      · rw [hσs]; exact Nat.lt_succ_self _
      · exact h3 r hr
    · intro w2 fh2 fio k1 k2 k3 k4 k5 k6
      have k5' := List.nodup_append.1 k5
      obtain ⟨F2, m1, m2⟩ := h4 w2 fio k1 (fun r hr b hb hn => k2 r (by simp [hr]) b hb (by
        simp only [List.mem_append, not_or]; exact ⟨hfhF r hr b hb, hn⟩)) k4 k5'.2.1 (fun r hr b hb hn hb' => k6 r (by simp [hr]) b hb (by
        simp only [List.mem_append, not_or]; exact ⟨hfhF r hr b hb, hn⟩) (by simp [hb']))
      obtain ⟨f2, m3, m4, m5⟩ := hH w2 z fh2 av k1 (fun b hb hn => k2 s (by simp) b hb (by simp only [List.mem_append, not_or]; exact ⟨hn, hfpF b hb⟩)) k5'.1 (fun b hb hn hb' => k6 s (by simp) b hb (by simp only [List.mem_append, not_or]; exact ⟨hn, hfpF b hb⟩) (by simp [hb'])) k3 hav
      have hne : ∀ r ∈ sl, r ≠ s := by rintro r hr' rfl; exact hs hr'
      -- head against the others
      have hcross : ∀ r ∈ sl, ∀ b ∈ f2, b ∉ F2 r := by
        intro r hr b hb hb'
        rcases m5 b hb with ⟨q1, q2⟩ | q1
        · rcases (m1 r hr).2.2 b hb' with ⟨q3, _⟩ | q3
          · exact hsim.disj s r (hne r hr).symm b q1 q3
          · exact k6 s (by simp) b q1 (by simp only [List.mem_append, not_or]; exact ⟨q2, hfpF b q1⟩) (by simp [q3])
        · rcases (m1 r hr).2.2 b hb' with ⟨q3, q4⟩ | q3
          · exact k6 r (by simp [hr]) b q3 (by simp only [List.mem_append, not_or]; exact ⟨hfhF r hr b q3, q4⟩) (by simp [q1])
          · exact k5'.2.2 b q1 b q3 rfl
      obtain ⟨Fn, hFs, hFr⟩ : ∃ Fn : Nat → List Nat, Fn s = f2 ∧ ∀ r ∈ sl, Fn r = F2 r := ⟨fun r => if r = s then f2 else F2 r, if_pos rfl, fun r hr => if_neg (hne r hr)⟩
      refine ⟨Fn, ?_, ?_⟩
      · intro r hr
        rcases List.mem_cons.1 hr with e | hr
        · rw [e, hFs, hσs]
          refine ⟨m3, m4, fun b hb => ?_⟩
          rcases m5 b hb with ⟨q1, q2⟩ | q1
          · exact .inl ⟨q1, by simp only [List.mem_append, not_or]; exact ⟨q2, hfpF b q1⟩⟩
          · exact .inr (by simp [q1])
        · rw [hFr r hr]
          obtain ⟨q1, q2, q3⟩ := m1 r hr
          refine ⟨q1, q2, fun b hb => ?_⟩
          rcases q3 b hb with ⟨q4, q5⟩ | q4
          · exact .inl ⟨q4, by simp only [List.mem_append, not_or]; exact ⟨hfhF r hr b q4, q5⟩⟩
          · exact .inr (by simp [q4])
      · intro r hr r' hr' hrr b hb
        rcases List.mem_cons.1 hr with e | hr <;> rcases List.mem_cons.1 hr' with e' | hr'
        · exact absurd (e.trans e'.symm) hrr
        · rw [e, hFs] at hb
          rw [hFr r' hr']
          exact hcross r' hr' b hb
        · rw [hFr r hr] at hb
          rw [e', hFs]
          exact fun hb' => hcross r hr b hb' hb
        · rw [hFr r hr] at hb
          rw [hFr r' hr']
          exact m2 r hr r' hr' hrr b hb
end Net
