/- A walk by plain functions, part 2: that what a region of operations does is what a plain function says, for any program whose types are at hand. -/
import Derived.Test.YtoildogibnampaaGreatBaseA

/- Paths inside a value: where a step leads in the datum and in memory. -/
namespace Net
open Go
set_option linter.unusedVariables false

def GetAt : (t : Ty) → El t → List Step → (t' : Ty) → El t' → Prop
  | t, x, [], t', x' => (⟨t, x⟩ : (t : Ty) × El t) = ⟨t', x'⟩
  | .st s, x, .f i :: p, t', x' => ∃ u y, nthL (fieldsOf s) (toL s x) i = some ⟨u, y⟩ ∧ GetAt u y p t' x'
  | .sl e, xs, .ix n :: p, t', x' => ∃ y, xs[n]? = some y ∧ GetAt e y p t' x'
  | _, _, _ :: _, _, _ => False
def PutAt : (t : Ty) → El t → List Step → (u : Ty) → El u → El t → Prop
  | t, _, [], u, y, x2 => (⟨t, x2⟩ : (t : Ty) × El t) = ⟨u, y⟩
  | .st s, x, .f i :: p, u, y, x2 => ∃ v z z2 l, nthL (fieldsOf s) (toL s x) i = some ⟨v, z⟩ ∧ PutAt v z p u y z2 ∧ setL (fieldsOf s) (toL s x) i v z2 = some l ∧ x2 = ofL s l
  | .sl e, xs, .ix n :: p, u, y, xs2 => ∃ z z2, xs[n]? = some z ∧ PutAt e z p u y z2 ∧ xs2 = List.set xs n z2
  | _, _, _ :: _, _, _, _ => False
def PathTo (w : World) (S : Nat → Prop) : (t : Ty) → Option Addr → List Value → List Step → Option Addr → List Value → Prop
  | _, A, cs, [], A', cs' => A' = A ∧ cs' = cs
  | .st s, A, cs, .f i :: p, A', cs' => ∃ u, (fieldsOf s)[i]? = some u ∧ PathTo w S u (A.map (·.add (offs (fieldsOf s) i))) ((cs.drop (offs (fieldsOf s) i)).take (csz u)) p A' cs'
  | .sl e, _, cs, .ix n :: p, A', cs' => ∃ a len cap c, cs = [.slice (some a) len cap] ∧ n < len ∧ S a.block ∧ locA w (a.add (n * csz e)) c ∧ c.length = csz e ∧ PathTo w S e (some (a.add (n * csz e))) c p A' cs'
  | _, _, _, _ :: _, _, _ => False

theorem GetAt_app : ∀ (p q : List Step) (t : Ty) (x : El t) (m : Ty) (y : El m) (t' : Ty) (x' : El t'), GetAt t x p m y → GetAt m y q t' x' → GetAt t x (p ++ q) t' x'
  | [], q, t, x, m, y, t', x', h, h2 => by
    simp only [GetAt, Sigma.mk.injEq] at h
    obtain ⟨rfl, h⟩ := h
    have h := eq_of_heq h
    subst h; exact h2
  | .f i :: p, q, .st s, x, m, y, t', x', h, h2 => by
    obtain ⟨u, z, h1, h3⟩ := h
    exact ⟨u, z, h1, GetAt_app p q u z m y t' x' h3 h2⟩
  | .ix n :: p, q, .sl e, x, m, y, t', x', h, h2 => by
    obtain ⟨z, h1, h3⟩ := h
    exact ⟨z, h1, GetAt_app p q e z m y t' x' h3 h2⟩
  | .f i :: p, q, .int _, x, m, y, t', x', h, h2 | .f i :: p, q, .bool, x, m, y, t', x', h, h2 | .f i :: p, q, .str, x, m, y, t', x', h, h2 | .f i :: p, q, .sl _, x, m, y, t', x', h, h2 => h.elim
  | .ix i :: p, q, .int _, x, m, y, t', x', h, h2 | .ix i :: p, q, .bool, x, m, y, t', x', h, h2 | .ix i :: p, q, .str, x, m, y, t', x', h, h2 | .ix i :: p, q, .st _, x, m, y, t', x', h, h2 => h.elim
theorem PathTo_app {w : World} {S : Nat → Prop} : ∀ (p q : List Step) (t : Ty) (x : El t) (m : Ty) (y : El m) (A : Option Addr) (cs : List Value) (B : Option Addr) (ds : List Value) (A' : Option Addr) (cs' : List Value), GetAt t x p m y → PathTo w S t A cs p B ds → PathTo w S m B ds q A' cs' → PathTo w S t A cs (p ++ q) A' cs'
  | [], q, t, x, m, y, A, cs, B, ds, A', cs', hg, h, h2 => by
    simp only [GetAt, Sigma.mk.injEq] at hg
    obtain ⟨rfl, hg⟩ := hg
    obtain ⟨rfl, rfl⟩ := h
    exact h2
  | .f i :: p, q, .st s, x, m, y, A, cs, B, ds, A', cs', hg, h, h2 => by
    obtain ⟨u, z, h1, h3⟩ := hg
    obtain ⟨u', hu, h4⟩ := h
    have hu2 : (fieldsOf s)[i]? = some u := by
      clear h2 h3 h4 hu
      revert h1
      generalize toL s x = l
      generalize fieldsOf s = ts at l
      induction ts generalizing i with
      | nil => simp [nthL]
      | cons t ts ih =>
        cases i with
        | zero => simp only [nthL, Option.some.injEq, Sigma.mk.injEq, List.getElem?_cons_zero]; exact fun h => h.1
        | succ i => simp only [nthL, List.getElem?_cons_succ]; exact ih _ _
    rw [hu2] at hu
    obtain rfl := Option.some.inj hu
    exact ⟨u, hu2, PathTo_app p q u z m y _ _ B ds A' cs' h3 h4 h2⟩
  | .ix n :: p, q, .sl e, x, m, y, A, cs, B, ds, A', cs', hg, h, h2 => by
    obtain ⟨z, h1, h3⟩ := hg
    obtain ⟨a, len, cap, c, h4, h5, hS, h6, h7, h8⟩ := h
    exact ⟨a, len, cap, c, h4, h5, hS, h6, h7, PathTo_app p q e z m y _ _ B ds A' cs' h3 h8 h2⟩
  | .f i :: p, q, .int _, _, _, _, _, _, _, _, _, _, h, _, _ | .f i :: p, q, .bool, _, _, _, _, _, _, _, _, _, h, _, _ | .f i :: p, q, .str, _, _, _, _, _, _, _, _, _, h, _, _ | .f i :: p, q, .sl _, _, _, _, _, _, _, _, _, _, h, _, _ => h.elim
  | .ix i :: p, q, .int _, _, _, _, _, _, _, _, _, _, h, _, _ | .ix i :: p, q, .bool, _, _, _, _, _, _, _, _, _, h, _, _ | .ix i :: p, q, .str, _, _, _, _, _, _, _, _, _, h, _, _ | .ix i :: p, q, .st _, _, _, _, _, _, _, _, _, _, h, _, _ => h.elim

theorem loc_unique {w : World} {a : Addr} {c d : List Value} (h : locA w a c) (k : locA w a d) (hl : c.length = d.length) : c = d := by
  apply List.ext_getElem hl
  intro i h1 h2
  have e1 := h i c[i] (by simp)
  have e2 := k i d[i] (by simp)
  rw [e1] at e2
  exact Option.some.inj e2

theorem tagAt_imm {q : Bool} : ∀ p, tagAt (.imm q) p = .imm q
  | [] => rfl
  | .f _ :: _ => rfl
  | .ix _ :: _ => rfl
theorem tagAt_own : ∀ p, tagAt .own p = .own
  | [] => rfl
  | .f _ :: _ => rfl
  | .ix _ :: _ => rfl
theorem tagAt_dead : ∀ p, tagAt .dead p = .dead
  | [] => rfl
  | .f _ :: _ => rfl
  | .ix _ :: _ => rfl
theorem tagAt_split {g : Tag} {n i : Nat} {gi : Tag} {p : List Step} (hos : ∀ g', g ≠ .os g') (h : (splitT n g)[i]? = some gi) : tagAt g (.f i :: p) = tagAt gi p := by
  cases g with
  | imm q => simp only [splitT, List.getElem?_replicate] at h; split at h <;> simp at h; subst h; rw [tagAt_imm, tagAt_imm]
  | own => simp only [splitT, List.getElem?_replicate] at h; split at h <;> simp at h; subst h; rw [tagAt_own, tagAt_own]
  | dead => simp only [splitT, List.getElem?_replicate] at h; split at h <;> simp at h; subst h; rw [tagAt_dead, tagAt_dead]
  | st gs => simp only [splitT] at h; simp only [tagAt, h]
  | os g => exact absurd rfl (hos g)

theorem TRL_glen {w : World} {I : Bool → Nat → Prop} : ∀ (gs : List Tag) (ts : List Ty) (x : HL ts) (cs : List Value) (fp : List Nat), TRL w I gs ts x cs fp → gs.length = ts.length
  | [], [], _, _, _, _ => rfl
  | g :: gs, t :: ts, x, cs, fp, h => by
    unfold TRL at h
    obtain ⟨c, c', f, f', _, _, _, h2⟩ := h
    simp [TRL_glen gs ts _ _ _ h2]
  | [], _ :: _, _, _, _, h | _ :: _, [], _, _, _, h => by simp [TRL] at h
theorem nthL_lt : ∀ (ts : List Ty) (x : HL ts) (i : Nat) (z : (t : Ty) × El t), nthL ts x i = some z → i < ts.length ∧ ts[i]? = some z.1
  | [], _, i, z, h => by simp [nthL] at h
  | t :: ts, x, 0, z, h => by simp only [nthL, Option.some.injEq] at h; subst h; simp
  | t :: ts, x, i + 1, z, h => by
    have := nthL_lt ts x.2 i z (by simpa only [nthL] using h)
    simpa using this
theorem setL_nth : ∀ (ts : List Ty) (x : HL ts) (i : Nat) (u : Ty) (y : El u), nthL ts x i = some ⟨u, y⟩ → setL ts x i u y = some x
  | [], _, i, u, y, h => by simp [nthL] at h
  | t :: ts, x, 0, u, y, h => by
    simp only [nthL, Option.some.injEq, Sigma.mk.injEq] at h
    obtain ⟨rfl, h⟩ := h
    have h := eq_of_heq h
    subst h
    simp [setL, castE]
  | t :: ts, x, i + 1, u, y, h => by
    have := setL_nth ts x.2 i u y (by simpa only [nthL] using h)
    simp [setL, this]

/-- one field under a tag -/
theorem TR_field {w : World} {I : Bool → Nat → Prop} {g : Tag} {s : SId} {x : Str s} {cs : List Value} {fp : List Nat} (h : TR w I g (.st s) x cs fp) {i : Nat} {u : Ty} {y : El u} (hn : nthL (fieldsOf s) (toL s x) i = some ⟨u, y⟩) :
    ∃ gi pre c post fpre f fpost, (splitT (fieldsOf s).length g)[i]? = some gi ∧ (fieldsOf s)[i]? = some u ∧ cs = pre ++ (c ++ post) ∧ fp = fpre ++ (f ++ fpost) ∧ pre.length = offs (fieldsOf s) i ∧ TR w I gi u y c f ∧
      ∀ w' g' y' c' f' z, (∀ k b, I k b → w'.heap[b]? = w.heap[b]?) → (∀ b ∈ fpre ++ fpost, w'.heap[b]? = w.heap[b]?) → TR w' I g' u y' c' f' → setL (fieldsOf s) (toL s x) i u y' = some z →
        TR w' I (.st ((splitT (fieldsOf s).length g).set i g')) (.st s) (ofL s z) (pre ++ (c' ++ post)) (fpre ++ (f' ++ fpost)) := by
  have h1 := TR_split h
  have hl := TRL_glen _ _ _ _ _ h1
  have hi := (nthL_lt _ _ _ _ hn).1
  obtain ⟨gi, hgi⟩ : ∃ gi, (splitT (fieldsOf s).length g)[i]? = some gi := ⟨(splitT (fieldsOf s).length g)[i]'(by omega), by simp⟩
  obtain ⟨hu, pre, c, post, fpre, f, fpost, h2, h3, h4, h5, h6⟩ := TRL_nth _ _ _ _ _ _ _ _ _ h1 hn hgi
  refine ⟨gi, pre, c, post, fpre, f, fpost, hgi, hu, h2, h3, h4, h5, ?_⟩
  intro w' g' y' c' f' z hI hw h7 h8
  refine TR_join ?_
  rw [toL_ofL]
  exact h6 w' g' y' c' f' z hI hw h7 h8

theorem TR_not_os {w : World} {I : Bool → Nat → Prop} {g : Tag} {s : SId} {x : Str s} {cs : List Value} {fp : List Nat} (h : TR w I g (.st s) x cs fp) : ∀ g', g ≠ .os g' := by
  rintro g' rfl
  simp [TR] at h

theorem lens_get {w : World} {I : Bool → Nat → Prop} {S : Nat → Prop} : ∀ (p : List Step) (g : Tag) (t : Ty) (x : El t) (cs : List Value) (fp : List Nat) (A : Option Addr) (t' : Ty) (x' : El t') (A' : Option Addr) (cs' : List Value),
    TR w I g t x cs fp → GetAt t x p t' x' → PathTo w S t A cs p A' cs' → (∀ a, A = some a → locA w a cs) → aliveT t' (tagAt g p) = true →
    ∃ f', (∀ b ∈ f', b ∈ fp) ∧ TR w I (tagAt g p) t' x' cs' f' ∧ (∀ a, A' = some a → locA w a cs')
  | [], g, t, x, cs, fp, A, t', x', A', cs', h, hg, hp, hl, _ => by
    simp only [GetAt, Sigma.mk.injEq] at hg
    obtain ⟨rfl, hg⟩ := hg
    have hg := eq_of_heq hg
    subst hg
    obtain ⟨rfl, rfl⟩ := hp
    exact ⟨fp, fun _ hb => hb, h, hl⟩
  | .f i :: p, g, .st s, x, cs, fp, A, t', x', A', cs', h, hg, hp, hl, ha => by
    obtain ⟨u, y, hn, hg2⟩ := hg
    obtain ⟨u', hu, hp2⟩ := hp
    obtain ⟨gi, pre, c, post, fpre, f, fpost, hgi, hu2, rfl, rfl, hlen, hc, _⟩ := TR_field h hn
    rw [hu2] at hu
    obtain rfl := Option.some.inj hu
    have hcl := TR_len _ _ _ _ _ hc
    have e : ((pre ++ (c ++ post)).drop (offs (fieldsOf s) i)).take (csz u) = c := by
      rw [← hlen, List.drop_left, ← hcl, List.take_left]
    rw [e] at hp2
    rw [tagAt_split (TR_not_os h) hgi] at ha ⊢
    obtain ⟨f', hf, h1, h2⟩ := lens_get p gi u y c f _ t' x' A' cs' hc hg2 hp2 (fun a ha => by
      cases A with
      | none => simp at ha
      | some a0 =>
        simp at ha
        subst ha
        have := (locA_append (locA_append (hl a0 rfl)).2).1
        rwa [hlen] at this) ha
    exact ⟨f', fun b hb => by simp [hf b hb], h1, h2⟩
  | .ix n :: p, g, .sl e, xs, cs, fp, A, t', x', A', cs', h, hg, hp, hl, ha => by
    obtain ⟨y, hy, hg2⟩ := hg
    obtain ⟨a, len, cap, c, rfl, hn, _, hloc, hcl, hp2⟩ := hp
    cases g with
    | imm q =>
      rw [tagAt_imm] at ha ⊢
      simp only [TR] at h
      obtain ⟨⟨d, hd⟩, rfl⟩ := h
      cases d with
      | zero => exact hd.elim
      | succ d =>
        rcases hd with ⟨h1, _⟩ | ⟨a2, cap2, h1, h2, h3, h4, h5⟩
        · simp at h1
        · simp at h1
          obtain ⟨rfl, rfl, rfl⟩ := h1
          obtain ⟨c2, hc2, hl2, hr⟩ := h5 n y hy
          have := loc_unique hloc hl2 (by omega)
          subst this
          have := lens_get p (.imm q) e y c [] _ t' x' A' cs' (TR_imm hr) hg2 hp2 (fun a ha => by simp at ha; subst ha; exact hloc) (by rw [tagAt_imm]; exact ha)
          rwa [tagAt_imm] at this
    | own =>
      rw [tagAt_own] at ha ⊢
      simp only [TR] at h
      obtain ⟨d, hd⟩ := h
      cases d with
      | zero => exact hd.elim
      | succ d =>
        rcases hd with ⟨h1, _⟩ | ⟨b, off, cap2, cur, et, f, h1, h2, h3, h4⟩
        · simp at h1
        · simp at h1
          obtain ⟨rfl, rfl, rfl⟩ := h1
          subst h3
          obtain ⟨c2, k, hl2, hk, hr⟩ := EL_read h2 h4 n y hy
          have := loc_unique hloc hl2 (by rw [hcl, RO_len _ _ _ _ _ hr])
          subst this
          obtain ⟨f', hf, h5, h6⟩ := lens_get p .own e y c k _ t' x' A' cs' (TR_of_own hr) hg2 hp2 (fun a ha => by simp at ha; subst ha; exact hloc) (by rw [tagAt_own]; exact ha)
          rw [tagAt_own] at h5
          exact ⟨f', fun q hq => by simp [hk q (hf q hq)], h5, h6⟩
    | dead => rw [tagAt_dead] at ha; cases t' <;> simp [aliveT] at ha
    | st gs => simp [TR] at h
    | os g =>
      simp only [TR] at h
      obtain ⟨b, off, cap2, cur, et, f, h1, h2, h3, h4⟩ := h
      simp at h1
      obtain ⟨rfl, rfl, rfl⟩ := h1
      subst h3
      obtain ⟨c2, k, hl2, hk, hr⟩ := EL_read h2 h4 n y hy
      have := loc_unique hloc hl2 (by rw [hcl, TR_len _ _ _ _ _ hr])
      subst this
      obtain ⟨f', hf, h5, h6⟩ := lens_get p g e y c k _ t' x' A' cs' hr hg2 hp2 (fun a ha => by simp at ha; subst ha; exact hloc) (by simpa only [tagAt] using ha)
      exact ⟨f', fun q hq => by simp [hk q (hf q hq)], by simpa only [tagAt] using h5, h6⟩
  | .f i :: p, _, .int _, _, _, _, _, _, _, _, _, _, h, _, _, _ | .f i :: p, _, .bool, _, _, _, _, _, _, _, _, _, h, _, _, _ | .f i :: p, _, .str, _, _, _, _, _, _, _, _, _, h, _, _, _ | .f i :: p, _, .sl _, _, _, _, _, _, _, _, _, _, h, _, _, _ => h.elim
  | .ix i :: p, _, .int _, _, _, _, _, _, _, _, _, _, h, _, _, _ | .ix i :: p, _, .bool, _, _, _, _, _, _, _, _, _, h, _, _, _ | .ix i :: p, _, .str, _, _, _, _, _, _, _, _, _, h, _, _, _ | .ix i :: p, _, .st _, _, _, _, _, _, _, _, _, _, h, _, _, _ => h.elim

theorem lens_kill {w : World} {I : Bool → Nat → Prop} {S : Nat → Prop} : ∀ (p : List Step) (g : Tag) (t : Ty) (x : El t) (cs : List Value) (fp : List Nat) (A : Option Addr) (t' : Ty) (x' : El t') (A' : Option Addr) (cs' : List Value) (gk : Tag),
    TR w I g t x cs fp → GetAt t x p t' x' → PathTo w S t A cs p A' cs' → killT t g p = some gk →
    ∃ f' pre post, fp = pre ++ (f' ++ post) ∧ TR w I (tagAt g p) t' x' cs' f' ∧ TR w I gk t x cs (pre ++ post)
  | [], g, t, x, cs, fp, A, t', x', A', cs', gk, h, hg, hp, hk => by
    simp only [GetAt, Sigma.mk.injEq] at hg
    obtain ⟨rfl, hg⟩ := hg
    have hg := eq_of_heq hg
    subst hg
    obtain ⟨rfl, rfl⟩ := hp
    have : gk = .dead := by cases t <;> simp [killT] at hk <;> exact hk.symm
    subst this
    exact ⟨fp, [], [], by simp, by cases g <;> exact h, TR_dead (TR_len _ _ _ _ _ h)⟩
  | .f i :: p, g, .st s, x, cs, fp, A, t', x', A', cs', gk, h, hg, hp, hk => by
    obtain ⟨u, y, hn, hg2⟩ := hg
    obtain ⟨u', hu, hp2⟩ := hp
    obtain ⟨gi, pre, c, post, fpre, f, fpost, hgi, hu2, rfl, rfl, hlen, hc, hset⟩ := TR_field h hn
    rw [hu2] at hu
    obtain rfl := Option.some.inj hu
    have hcl := TR_len _ _ _ _ _ hc
    have e : ((pre ++ (c ++ post)).drop (offs (fieldsOf s) i)).take (csz u) = c := by
      rw [← hlen, List.drop_left, ← hcl, List.take_left]
    rw [e] at hp2
    rw [tagAt_split (TR_not_os h) hgi]
    simp only [killT, hu2, hgi, Option.map_eq_some_iff] at hk
    obtain ⟨gk', hk', rfl⟩ := hk
    obtain ⟨f', pre2, post2, rfl, h1, h2⟩ := lens_kill p gi u y c f _ t' x' A' cs' gk' hc hg2 hp2 hk'
    refine ⟨f', fpre ++ pre2, post2 ++ fpost, by simp, h1, ?_⟩
    have := hset w gk' y c (pre2 ++ post2) (toL s x) (fun _ _ _ => rfl) (fun _ _ => rfl) h2 (setL_nth _ _ _ _ _ hn)
    rw [ofL_toL] at this
    simpa using this
  | .ix n :: p, g, .sl e, x, cs, fp, A, t', x', A', cs', gk, h, hg, hp, hk => by simp [killT] at hk
  | .f i :: p, _, .int _, _, _, _, _, _, _, _, _, _, _, h, _, _ | .f i :: p, _, .bool, _, _, _, _, _, _, _, _, _, _, h, _, _ | .f i :: p, _, .str, _, _, _, _, _, _, _, _, _, _, h, _, _ | .f i :: p, _, .sl _, _, _, _, _, _, _, _, _, _, _, h, _, _ => h.elim
  | .ix i :: p, _, .int _, _, _, _, _, _, _, _, _, _, _, h, _, _ | .ix i :: p, _, .bool, _, _, _, _, _, _, _, _, _, _, h, _, _ | .ix i :: p, _, .str, _, _, _, _, _, _, _, _, _, _, h, _, _ | .ix i :: p, _, .st _, _, _, _, _, _, _, _, _, _, _, h, _, _ => h.elim

theorem PathTo_same {w w' : World} {S S' : Nat → Prop} (hS : ∀ b, S b → S' b) (hw : ∀ b, S b → w'.heap[b]? = w.heap[b]?) : ∀ (p : List Step) (t : Ty) (A : Option Addr) (cs : List Value) (A' : Option Addr) (cs' : List Value), PathTo w S t A cs p A' cs' → PathTo w' S' t A cs p A' cs'
  | [], t, A, cs, A', cs', h => by cases t <;> exact h
  | .f i :: p, .st s, A, cs, A', cs', h => by
    obtain ⟨u, hu, h2⟩ := h
    exact ⟨u, hu, PathTo_same hS hw p _ _ _ _ _ h2⟩
  | .ix n :: p, .sl e, A, cs, A', cs', h => by
    obtain ⟨a, len, cap, c, h1, h2, h3, h4, h5, h6⟩ := h
    exact ⟨a, len, cap, c, h1, h2, hS _ h3, locA_same (by rw [add_block]; exact hw _ h3) h4, h5, PathTo_same hS hw p _ _ _ _ _ h6⟩
  | .f i :: p, .int _, _, _, _, _, h | .f i :: p, .bool, _, _, _, _, h | .f i :: p, .str, _, _, _, _, h | .f i :: p, .sl _, _, _, _, _, h => h.elim
  | .ix i :: p, .int _, _, _, _, _, h | .ix i :: p, .bool, _, _, _, _, h | .ix i :: p, .str, _, _, _, _, h | .ix i :: p, .st _, _, _, _, _, h => h.elim

/-- The chain of what lies round a place. -/
def Chain : Up → (t : Ty) → El t → (tr : Ty) → El tr → Prop
  | [], t, x, tr, xr => (⟨t, x⟩ : (t : Ty) × El t) = ⟨tr, xr⟩
  | (⟨pt, px⟩, s) :: up, t, x, tr, xr => GetAt pt px [s] t x ∧ Chain up pt px tr xr
theorem stepsOf_cons (z : ((t : Ty) × El t) × Step) (up : Up) : stepsOf (z :: up) = stepsOf up ++ [z.2] := by simp [stepsOf]
theorem Chain.get : ∀ (up : Up) (t : Ty) (x : El t) (tr : Ty) (xr : El tr), Chain up t x tr xr → GetAt tr xr (stepsOf up) t x
  | [], t, x, tr, xr, h => by
    simp only [Chain, Sigma.mk.injEq] at h
    obtain ⟨rfl, h⟩ := h
    have h := eq_of_heq h
    subst h
    cases t <;> rfl
  | (⟨pt, px⟩, s) :: up, t, x, tr, xr, h => by
    rw [stepsOf_cons]
    exact GetAt_app _ _ _ _ _ _ _ _ (Chain.get up pt px tr xr h.2) h.1
theorem PutAt_app : ∀ (p q : List Step) (t : Ty) (x : El t) (m : Ty) (z : El m) (u : Ty) (y : El u) (z2 : El m) (x2 : El t), GetAt t x p m z → PutAt m z q u y z2 → PutAt t x p m z2 x2 → PutAt t x (p ++ q) u y x2
  | [], q, t, x, m, z, u, y, z2, x2, hg, h1, h2 => by
    simp only [GetAt, Sigma.mk.injEq] at hg
    obtain ⟨rfl, hg⟩ := hg
    have hg := eq_of_heq hg
    subst hg
    simp only [PutAt, Sigma.mk.injEq, heq_eq_eq, true_and] at h2
    subst h2; exact h1
  | .f i :: p, q, .st s, x, m, z, u, y, z2, x2, hg, h1, h2 => by
    obtain ⟨v, k, hn, hg2⟩ := hg
    obtain ⟨v', k', k2, l, hn', h3, h4, h5⟩ := h2
    rw [hn] at hn'
    simp only [Option.some.injEq, Sigma.mk.injEq] at hn'
    obtain ⟨rfl, hk⟩ := hn'
    have hk := eq_of_heq hk
    subst hk
    exact ⟨v, k, k2, l, hn, PutAt_app p q v k m z u y z2 k2 hg2 h1 h3, h4, h5⟩
  | .ix n :: p, q, .sl e, x, m, z, u, y, z2, x2, hg, h1, h2 => by
    obtain ⟨k, hn, hg2⟩ := hg
    obtain ⟨k', k2, hn', h3, h4⟩ := h2
    rw [hn] at hn'
    obtain rfl := Option.some.inj hn'
    exact ⟨k, k2, hn, PutAt_app p q e k m z u y z2 k2 hg2 h1 h3, h4⟩
  | .f i :: p, _, .int _, _, _, _, _, _, _, _, h, _, _ | .f i :: p, _, .bool, _, _, _, _, _, _, _, h, _, _ | .f i :: p, _, .str, _, _, _, _, _, _, _, h, _, _ | .f i :: p, _, .sl _, _, _, _, _, _, _, _, h, _, _ => h.elim
  | .ix i :: p, _, .int _, _, _, _, _, _, _, _, h, _, _ | .ix i :: p, _, .bool, _, _, _, _, _, _, _, h, _, _ | .ix i :: p, _, .str, _, _, _, _, _, _, _, h, _, _ | .ix i :: p, _, .st _, _, _, _, _, _, _, _, h, _, _ => h.elim
theorem castE_eq {a b : Ty} {x : El a} {y : El b} (h : castE a b x = some y) : (⟨a, x⟩ : (t : Ty) × El t) = ⟨b, y⟩ := by
  unfold castE at h
  split at h
  · rename_i hab
    subst hab
    simp at h; subst h; rfl
  · simp at h
theorem PutAt_step {pt : Ty} {px : El pt} {s : Step} {t : Ty} {x : El t} (hg : GetAt pt px [s] t x) {y : El t} {t' : Ty} {z : El t'} (h : updStep ⟨pt, px⟩ s t y = some ⟨t', z⟩) : ∃ z2 : El pt, PutAt pt px [s] t y z2 ∧ (⟨t', z⟩ : (t : Ty) × El t) = ⟨pt, z2⟩ := by
  cases s with
  | f i =>
    cases pt with
    | st s =>
      obtain ⟨u, k, hn, hk⟩ := hg
      have hk : (⟨u, k⟩ : (t : Ty) × El t) = ⟨t, x⟩ := by cases u <;> exact hk
      simp only [Sigma.mk.injEq] at hk
      obtain ⟨rfl, hk⟩ := hk
      have hk := eq_of_heq hk
      subst hk
      simp only [updStep, Option.map_eq_some_iff] at h
      obtain ⟨l, hl, h⟩ := h
      exact ⟨ofL s l, ⟨u, k, y, l, hn, by cases u <;> rfl, hl, rfl⟩, h.symm⟩
    | _ => exact hg.elim
  | ix n =>
    cases pt with
    | sl e =>
      obtain ⟨k, hn, hk⟩ := hg
      have hk : (⟨e, k⟩ : (t : Ty) × El t) = ⟨t, x⟩ := by cases e <;> exact hk
      simp only [Sigma.mk.injEq] at hk
      obtain ⟨rfl, hk⟩ := hk
      have hk := eq_of_heq hk
      subst hk
      simp only [updStep, Option.map_eq_some_iff] at h
      obtain ⟨l, hl, h⟩ := h
      have := castE_eq hl
      simp only [Sigma.mk.injEq, heq_eq_eq, true_and] at this
      subst this
      exact ⟨List.set px n y, ⟨k, y, hn, by cases e <;> rfl, rfl⟩, h.symm⟩
    | _ => exact hg.elim
theorem Chain.put : ∀ (up : Up) (t : Ty) (x : El t) (tr : Ty) (xr : El tr) (y : El t) (t' : Ty) (z : El t'), Chain up t x tr xr → updUp up t y = some ⟨t', z⟩ → ∃ z2 : El tr, PutAt tr xr (stepsOf up) t y z2 ∧ (⟨t', z⟩ : (t : Ty) × El t) = ⟨tr, z2⟩
  | [], t, x, tr, xr, y, t', z, h, hu => by
    simp only [Chain, Sigma.mk.injEq] at h
    obtain ⟨rfl, h⟩ := h
    simp only [updUp, Option.some.injEq] at hu
    exact ⟨y, by cases t <;> rfl, hu.symm⟩
  | (⟨pt, px⟩, s) :: up, t, x, tr, xr, y, t', z, h, hu => by
    simp only [updUp] at hu
    cases hq : updStep ⟨pt, px⟩ s t y with
    | none => simp [hq] at hu
    | some q =>
      obtain ⟨qt, qx⟩ := q
      simp only [hq] at hu
      obtain ⟨m2, hm, he⟩ := PutAt_step h.1 hq
      simp only [Sigma.mk.injEq] at he
      obtain ⟨rfl, he⟩ := he
      have he := eq_of_heq he
      subst he
      obtain ⟨z2, h1, h2⟩ := Chain.put up qt px tr xr qx t' z h.2 hu
      exact ⟨z2, by rw [stepsOf_cons]; exact PutAt_app _ _ _ _ _ _ _ _ _ _ (Chain.get up qt px tr xr h.2) hm h1, h2⟩
end Net

/- A store at a place inside a value. -/
namespace Net
open Go
set_option linter.unusedVariables false

def splice (cur : Array Value) (o : Nat) (cy : List Value) : Array Value := (cur.toList.take o ++ cy ++ cur.toList.drop (o + cy.length)).toArray

theorem splice_get {cur : Array Value} {o : Nat} {cy : List Value} (h : o + cy.length ≤ cur.size) (k : Nat) :
    (splice cur o cy).toList[k]? = if o ≤ k ∧ k < o + cy.length then cy[k - o]? else cur.toList[k]? := by
  have hl : (cur.toList.take o).length = o := by simp; omega
  simp only [splice, List.append_assoc]
  by_cases h1 : k < o
  · rw [List.getElem?_append_left (by omega), if_neg (by omega), List.getElem?_take, if_pos h1]
  · rw [List.getElem?_append_right (by omega), hl]
    by_cases h2 : k < o + cy.length
    · rw [List.getElem?_append_left (by omega), if_pos (by omega)]
    · rw [List.getElem?_append_right (by omega), if_neg (by omega), List.getElem?_drop]
      congr 1; omega
theorem splice_size {cur : Array Value} {o : Nat} {cy : List Value} (h : o + cy.length ≤ cur.size) : (splice cur o cy).size = cur.size := by
  simp [splice]; omega

/-- Cells written at an address. -/
structure Wr (w w2 : World) (b o : Nat) (cy : List Value) (cur : Array Value) (et : TypeId) : Prop where
  obj : w.heap[b]? = some (.cells cur et (0, 0))
  fit : o + cy.length ≤ cur.size
  is : w2 = w.setRow b (splice cur o cy)
theorem Wr.other {w w2 : World} {b o : Nat} {cy : List Value} {cur : Array Value} {et : TypeId} (h : Wr w w2 b o cy cur et) (k : Nat) (hk : k ≠ b) : w2.heap[k]? = w.heap[k]? := by
  rw [h.is]; exact setRow_other _ _ _ _ hk
theorem Wr.at {w w2 : World} {b o : Nat} {cy : List Value} {cur : Array Value} {et : TypeId} (h : Wr w w2 b o cy cur et) : w2.heap[b]? = some (.cells (splice cur o cy) et (0, 0)) := by
  rw [h.is]; exact setRow_heap _ _ _ _ _ _ h.obj
theorem Wr.loc {w w2 : World} {b o : Nat} {cy : List Value} {cur : Array Value} {et : TypeId} (h : Wr w w2 b o cy cur et) : locA w2 ⟨b, o, none⟩ cy := by
  intro j v hj
  rw [add_mk]
  have hlt : j < cy.length := by
    by_cases hlt : j < cy.length
    · exact hlt
    · simp [List.getElem?_eq_none (Nat.le_of_not_lt hlt)] at hj
  have := splice_get h.fit (o + j)
  rw [if_pos ⟨by omega, by omega⟩] at this
  simp only [World.cell?, h.at]
  simp at this
  simp [this, hj]

theorem EL_split {α : Type} {R : α → List Value → List Nat → Prop} {sz : Nat} : ∀ (xs : List α) (cs : List Value) (f : List Nat) (n : Nat) (y : α), EL R sz xs cs f → xs[n]? = some y →
    ∃ f1 fn f3, f = f1 ++ (fn ++ f3) ∧ R y ((cs.drop (n * sz)).take sz) fn ∧ ∀ (R' : α → List Value → List Nat → Prop) (cs2 : List Value) (y2 : α) (f2 : List Nat),
      (∀ z c k, (∀ b ∈ k, b ∈ f1 ++ f3) → R z c k → R' z c k) → (∀ j, j ≠ n → j < xs.length → (cs2.drop (j * sz)).take sz = (cs.drop (j * sz)).take sz) → R' y2 ((cs2.drop (n * sz)).take sz) f2 → EL R' sz (xs.set n y2) cs2 (f1 ++ (f2 ++ f3))
  | [], _, _, n, y, _, hn => by simp at hn
  | x :: xs, cs, f, 0, y, h, hn => by
    obtain ⟨f1, f2, rfl, h1, h2⟩ := h
    simp at hn; subst hn
    refine ⟨[], f1, f2, rfl, by simpa using h1, ?_⟩
    intro R' cs2 y2 g hm hj hy
    refine ⟨g, f2, rfl, by simpa using hy, ?_⟩
    -- the others
    have : ∀ (l : List α) (c d : List Value) (k : List Nat), (∀ q ∈ k, q ∈ f2) → (∀ j, j < l.length → (d.drop (j * sz)).take sz = (c.drop (j * sz)).take sz) → EL R sz l c k → EL R' sz l d k := by
      intro l
      induction l with
      | nil => intro c d k _ _ h; exact h
      | cons z l ih =>
        intro c d k hk hd h
        obtain ⟨k1, k2, rfl, h3, h4⟩ := h
        refine ⟨k1, k2, rfl, ?_, ih _ _ _ (fun q hq => hk q (by simp [hq])) ?_ h4⟩
        · have := hd 0 (by simp)
          simp only [Nat.zero_mul, List.drop_zero] at this
          rw [this]; exact hm _ _ _ (fun q hq => by simpa using hk q (by simp [hq])) h3
        · intro j hj
          rw [List.drop_drop, List.drop_drop]
          have := hd (j + 1) (by simpa using hj)
          rwa [Nat.add_mul, Nat.one_mul, Nat.add_comm] at this
    refine this xs _ _ _ (fun q hq => hq) ?_ h2
    intro j hjl
    rw [List.drop_drop, List.drop_drop]
    have := hj (j + 1) (by omega) (by simpa using hjl)
    rwa [Nat.add_mul, Nat.one_mul, Nat.add_comm] at this
  | x :: xs, cs, f, n + 1, y, h, hn => by
    obtain ⟨g1, g2, rfl, h1, h2⟩ := h
    simp at hn
    obtain ⟨f1, fn, f3, rfl, h3, h4⟩ := EL_split xs _ _ n y h2 hn
    refine ⟨g1 ++ f1, fn, f3, by simp, ?_, ?_⟩
    · rw [List.drop_drop] at h3
      rwa [Nat.add_mul, Nat.one_mul, Nat.add_comm]
    · intro R' cs2 y2 g hm hj hy
      refine ⟨g1, f1 ++ (g ++ f3), by simp, ?_, ?_⟩
      · have := hj 0 (by omega) (by simp)
        simp only [Nat.zero_mul, List.drop_zero] at this
        rw [this]; exact hm _ _ _ (fun q hq => by simp [hq]) h1
      · refine h4 R' _ y2 g (fun z c k hk => hm z c k (fun q hq => by have := hk q hq; simp only [List.mem_append] at this ⊢; rcases this with h | h; exact .inl (.inr h); exact .inr h)) ?_ ?_
        · intro j hjn hjl
          rw [List.drop_drop, List.drop_drop]
          have := hj (j + 1) (by omega) (by simpa using hjl)
          rwa [Nat.add_mul, Nat.one_mul, Nat.add_comm] at this
        · rw [List.drop_drop]
          rwa [Nat.add_mul, Nat.one_mul, Nat.add_comm] at hy

theorem chunk_ext {c d : List Value} {o sz : Nat} (h : ∀ k, o ≤ k → k < o + sz → c[k]? = d[k]?) : (c.drop o).take sz = (d.drop o).take sz := by
  apply List.ext_getElem?
  intro i
  simp only [List.getElem?_take, List.getElem?_drop]
  split
  · exact h _ (by omega) (by omega)
  · rfl

theorem wrt_ix {e : Ty} {g : Tag} {n : Nat} {p : List Step} (h : wrtT (.sl e) g (.ix n :: p) = true) : g = .own ∧ wrtT e .own p = true := by
  cases g <;> simp_all [wrtT]
theorem set_ix {e : Ty} {n : Nat} {p : List Step} {g' g2 : Tag} (h : setT (.sl e) .own (.ix n :: p) g' = some g2) : g2 = .own ∧ ∃ z, setT e .own p g' = some z ∧ ownT e z = true := by
  simp only [setT] at h
  split at h
  · rename_i z hz
    split at h
    · rename_i ho; exact ⟨by simpa using h.symm, z, hz, ho⟩
    · simp at h
  · simp at h
mutual
theorem ownT_alive : ∀ (t : Ty) (g : Tag), ownT t g = true → aliveT t g = true
  | .st s, .st gs, h => by
    simp only [ownT, Bool.or_eq_true, Bool.and_eq_true] at h
    simp only [aliveT]
    rcases h with h | h
    · exact h.2
    · exact ownTs_alive _ _ h
  | t, .own, _ => by cases t <;> simp [aliveT]
  | t, .imm q, _ => by cases t <;> simp [aliveT]
  | t, .dead, h => by cases t <;> simp [ownT] at h
  | .sl e, .os g, h => by simp [ownT, plainT] at h
  | .int _, .os g, h | .bool, .os g, h | .str, .os g, h | .st _, .os g, h => by simp [aliveT]
  | .int _, .st gs, h | .bool, .st gs, h | .str, .st gs, h | .sl _, .st gs, h => by simp [aliveT]
theorem ownTs_alive : ∀ (ts : List Ty) (gs : List Tag), ownTs ts gs = true → aliveTs ts gs = true
  | [], [], _ => by simp [aliveTs]
  | t :: ts, g :: gs, h => by
    simp only [ownTs, Bool.and_eq_true] at h
    simp only [aliveTs, Bool.and_eq_true]
    exact ⟨ownT_alive t g h.1, ownTs_alive ts gs h.2⟩
  | [], _ :: _, h | _ :: _, [], h => by simp [ownTs] at h
end

theorem lens_set {w w2 : World} {I : Bool → Nat → Prop} {S : Nat → Prop} {b' o' : Nat} {cy : List Value} {cur' : Array Value} {et' : TypeId} {u : Ty} {y : El u} {gy : Tag} {fy : List Nat} (hw : Wr w w2 b' o' cy cur' et') (hcy : cy.length = csz u) (hy : TR w2 I gy u y cy fy) (hI' : ∀ k, ¬ I k b') :
    ∀ (p : List Step) (g : Tag) (t : Ty) (x : El t) (cs : List Value) (fp : List Nat) (A : Option Addr) (x' : El u) (cs' : List Value) (x2 : El t) (g2 : Tag),
    TR w I g t x cs fp → fp.Nodup → (∀ a, A = some a → a.spot = none ∧ a.block ∉ fp ∧ locA w a cs) → GetAt t x p u x' → PutAt t x p u y x2 → PathTo w S t A cs p (some ⟨b', o', none⟩) cs' → wrtT t g p = true → setT t g p gy = some g2 →
    ∃ cs2 pre f' post, fp = pre ++ (f' ++ post) ∧ TR w2 I g2 t x2 cs2 (pre ++ (fy ++ post)) ∧ (∀ a, A = some a → locA w2 a cs2) ∧ cs2.length = cs.length ∧ (A = none → cs2 = cs) ∧
      ((b' ∈ fp ∧ cs2 = cs) ∨ ∃ a, A = some a ∧ b' = a.block ∧ a.off ≤ o' ∧ o' + cy.length ≤ a.off + cs.length)
  | [], g, t, x, cs, fp, A, x', cs', x2, g2, h, hnd, hA, hg, hput, hp, hwr, hs => by
    simp only [GetAt, Sigma.mk.injEq] at hg
    obtain ⟨rfl, _⟩ := hg
    simp only [PutAt, Sigma.mk.injEq, heq_eq_eq, true_and] at hput
    subst hput
    obtain ⟨rfl, rfl⟩ := hp
    have e : gy = g2 := by cases t <;> simpa [setT] using hs
    subst e
    have hl := TR_len _ _ _ _ _ h
    refine ⟨cy, [], fp, [], by simp, by simpa using hy, ?_, by omega, by simp, .inr ⟨_, rfl, rfl, Nat.le_refl _, by show o' + _ ≤ o' + _; omega⟩⟩
    intro a ha; simp at ha; subst ha
    exact hw.loc
  | .f i :: p, g, .st s, x, cs, fp, A, x', cs', x2, g2, h, hnd, hA, hg, hput, hp, hwr, hs => by
    obtain ⟨v, z, hn, hg2⟩ := hg
    obtain ⟨v2, z', z2, l, hn2, hput2, hsl, rfl⟩ := hput
    rw [hn] at hn2
    simp only [Option.some.injEq, Sigma.mk.injEq] at hn2
    obtain ⟨rfl, hz⟩ := hn2
    have hz := eq_of_heq hz
    subst hz
    obtain ⟨v', hu, hp2⟩ := hp
    obtain ⟨gi, pre, c, post, fpre, f, fpost, hgi, hu2, rfl, rfl, hlen, hc, hset⟩ := TR_field h hn
    rw [hu2] at hu
    obtain rfl := Option.some.inj hu
    have hcl := TR_len _ _ _ _ _ hc
    have e : ((pre ++ (c ++ post)).drop (offs (fieldsOf s) i)).take (csz v) = c := by
      rw [← hlen, List.drop_left, ← hcl, List.take_left]
    rw [e] at hp2
    simp only [wrtT, hu2, hgi] at hwr
    simp only [setT, hu2, hgi, Option.map_eq_some_iff] at hs
    obtain ⟨gi2, hgi2, rfl⟩ := hs
    have hnf : f.Nodup := (List.nodup_append.1 (List.nodup_append.1 hnd).2.1).1
    have hAi : ∀ a, A.map (·.add (offs (fieldsOf s) i)) = some a → a.spot = none ∧ a.block ∉ f ∧ locA w a c := by
      intro a ha
      cases A with
      | none => simp at ha
      | some a0 =>
        simp at ha; subst ha
        obtain ⟨h1, h2, h3⟩ := hA a0 rfl
        refine ⟨by unfold Addr.add; split <;> simp [h1], by rw [add_block]; intro hb; exact h2 (by simp [hb]), ?_⟩
        have := (locA_append (locA_append h3).2).1
        rwa [hlen] at this
    obtain ⟨c2, pre2, f2, post2, rfl, h1, h2, h3, h4, h5⟩ := lens_set hw hcy hy hI' p gi v z c f _ x' cs' z2 gi2 hc hnf hAi hg2 hput2 hp2 hwr hgi2
    -- what lies in the other fields stays
    have hother : ∀ b ∈ fpre ++ fpost, w2.heap[b]? = w.heap[b]? := by
      intro b hb
      refine hw.other b ?_
      rintro rfl
      rcases h5 with ⟨h5, _⟩ | ⟨a, ha, h5, _⟩
      · simp only [List.mem_append] at hb
        have h6 := List.nodup_append.1 hnd
        have h7 := List.nodup_append.1 h6.2.1
        rcases hb with hb | hb
        · exact h6.2.2 _ hb _ (List.mem_append.2 (.inl h5)) rfl
        · exact h7.2.2 _ h5 _ hb rfl
      · cases A with
        | none => simp at ha
        | some a0 =>
          simp at ha; subst ha
          rw [add_block] at h5
          obtain ⟨_, h6, _⟩ := hA a0 rfl
          refine h6 ?_
          rw [← h5]
          simp only [List.mem_append] at hb ⊢
          rcases hb with hb | hb
          · exact .inl hb
          · exact .inr (.inr hb)
    have hIw : ∀ k b, I k b → w2.heap[b]? = w.heap[b]? := fun k b hb => hw.other b (by rintro rfl; exact hI' k hb)
    have := hset w2 gi2 z2 c2 (pre2 ++ (fy ++ post2)) l hIw hother h1 hsl
    refine ⟨pre ++ (c2 ++ post), fpre ++ pre2, f2, post2 ++ fpost, by simp, by simpa using this, ?_, by simp [h3], ?_, ?_⟩
    · intro a ha
      obtain ⟨k1, k2, k3⟩ := hA a ha
      subst ha
      -- cell by cell
      have hc2 := h2 _ rfl
      intro j q hj
      by_cases hjp : j < pre.length
      · rw [List.getElem?_append_left hjp] at hj
        have e1 := k3 j q (by rw [List.getElem?_append_left hjp]; exact hj)
        rcases h5 with ⟨h5, rfl⟩ | ⟨a2, ha2, h5, h6, h7⟩
        · rw [cell_same (hw.other a.block ?_) _ (add_block _ _)]; exact e1
          intro hab; exact k2 (by rw [hab]; exact List.mem_append.2 (.inr (List.mem_append.2 (.inl h5))))
        · simp at ha2; subst ha2
          obtain ⟨ab, ao, as⟩ := a
          simp at k1; subst k1
          rw [add_mk] at e1 h5 h6 h7 ⊢
          simp at h5 h6 h7; subst h5
          have e2 := splice_get hw.fit (ao + j)
          rw [if_neg (by omega)] at e2
          simp only [World.cell?, hw.at]; simp only [World.cell?, hw.obj] at e1
          simp at e1 e2 ⊢; rw [e2]; exact e1
      · rw [List.getElem?_append_right (by omega)] at hj
        by_cases hjc : j - pre.length < c2.length
        · rw [List.getElem?_append_left hjc] at hj
          have e1 := hc2 _ _ hj
          rw [add_add, ← hlen, show pre.length + (j - pre.length) = j by omega] at e1
          exact e1
        · rw [List.getElem?_append_right (by omega)] at hj
          have e1 := k3 j q (by rw [List.getElem?_append_right (by omega), List.getElem?_append_right (by omega), ← h3]; exact hj)
          rcases h5 with ⟨h5, rfl⟩ | ⟨a2, ha2, h5, h6, h7⟩
          · rw [cell_same (hw.other a.block ?_) _ (add_block _ _)]; exact e1
            intro hab; exact k2 (by rw [hab]; exact List.mem_append.2 (.inr (List.mem_append.2 (.inl h5))))
          · simp at ha2; subst ha2
            obtain ⟨ab, ao, as⟩ := a
            simp at k1; subst k1
            rw [add_mk] at e1 h5 h6 h7 ⊢
            simp at h5 h6 h7; subst h5
            have e2 := splice_get hw.fit (ao + j)
            rw [if_neg (by omega)] at e2
            simp only [World.cell?, hw.at]; simp only [World.cell?, hw.obj] at e1
            simp at e1 e2 ⊢; rw [e2]; exact e1
    · intro ha; subst ha; rw [h4 rfl]
    · rcases h5 with ⟨h5, rfl⟩ | ⟨a2, ha2, h5, h6, h7⟩
      · refine .inl ⟨?_, rfl⟩
        simp only [List.mem_append] at h5 ⊢
        exact .inr (.inl h5)
      · cases A with
        | none => simp at ha2
        | some a0 =>
          simp at ha2; subst ha2
          obtain ⟨k1, _, _⟩ := hA a0 rfl
          refine .inr ⟨a0, rfl, by rw [h5, add_block], ?_⟩
          obtain ⟨ab, ao, as⟩ := a0
          simp at k1; subst k1
          rw [add_mk] at h6 h7
          simp only [List.length_append] at h6 h7 ⊢
          omega
  | .ix n :: p, g, .sl e, xs, cs, fp, A, x', cs', xs2, g2, h, hnd, hA, hg, hput, hp, hwr, hs => by
    obtain ⟨rfl, hwr2⟩ := wrt_ix hwr
    obtain ⟨rfl, gz, hgz, hgo⟩ := set_ix hs
    obtain ⟨z, hz, hg2⟩ := hg
    obtain ⟨z', z2, hz', hput2, rfl⟩ := hput
    rw [hz] at hz'
    obtain rfl := Option.some.inj hz'
    obtain ⟨a, len, cap, c, rfl, hn, _, hloc, hcl, hp2⟩ := hp
    simp only [TR] at h
    obtain ⟨d, hd⟩ := h
    cases d with
    | zero => exact hd.elim
    | succ d =>
      rcases hd with ⟨h1, _⟩ | ⟨b, off, cap2, cur, et, f, h1, h2, h3, h4⟩
      · simp at h1
      · simp at h1
        obtain ⟨rfl, rfl, rfl⟩ := h1
        subst h3
        obtain ⟨f1, fn, f3, rfl, h5, h6⟩ := EL_split _ _ _ n z h4 hz
        have hcz : csz e * 1 = csz e := by simp
        have hchunk : locA w ((⟨b, off, none⟩ : Addr).add (n * csz e)) (((cur.toList.drop off).drop (n * csz e)).take (csz e)) := locA_take _ (locA_drop _ (arr_loc h2))
        have hce := loc_unique hloc hchunk (by rw [hcl, RO_len _ _ _ _ _ h5])
        rw [← hce] at h5
        have hnd2 := List.nodup_cons.1 hnd
        have hnd3 := List.nodup_append.1 hnd2.2
        have hnd4 := List.nodup_append.1 hnd3.2.1
        rw [add_mk] at hloc hp2
        obtain ⟨c2, pre2, fn', post2, rfl, k1, k2, k3, k4, k5⟩ := lens_set hw hcy hy hI' p .own e z c fn (some ⟨b, off + n * csz e, none⟩) x' cs' z2 gz (TR_of_own h5) hnd4.1
          (fun a ha => by simp at ha; subst ha; exact ⟨rfl, fun hb => hnd2.1 (by simp only [List.mem_append]; exact .inr (.inl hb)), hloc⟩) hg2 hput2 hp2 hwr2 hgz
        have hk2 := k2 _ rfl
        obtain ⟨d2, hd2⟩ := TR_own gz e z2 c2 _ hgo (ownT_alive _ _ hgo) k1
        -- the array behind the store
        obtain ⟨cur2, hobj2, hsz2, hsame⟩ : ∃ cur2 : Array Value, w2.heap[b]? = some (.cells cur2 et (0, 0)) ∧ cur2.size = cur.size ∧ ∀ k, (k < off + n * csz e ∨ off + n * csz e + csz e ≤ k) → cur2.toList[k]? = cur.toList[k]? := by
          rcases k5 with ⟨k5, rfl⟩ | ⟨a2, ha2, k5, k6, k7⟩
          · refine ⟨cur, ?_, rfl, fun _ _ => rfl⟩
            rw [hw.other b ?_]; exact h2.obj
            rintro rfl
            refine hnd2.1 ?_
            simp only [List.mem_append] at k5 ⊢
            exact .inr (.inl k5)
          · simp at ha2; subst ha2
            simp at k5 k6 k7; subst k5
            have := hw.obj
            rw [h2.obj] at this
            simp at this
            obtain ⟨rfl, rfl⟩ := this
            refine ⟨splice cur o' cy, hw.at, splice_size hw.fit, fun k hk => ?_⟩
            rw [splice_get hw.fit, if_neg (by omega)]
        have harr2 : Arr w2 b off cap xs.length (csz e) cur2 et := ⟨hobj2, by rw [hsz2]; exact h2.fit, h2.len, h2.cap⟩
        have hc2 : ((cur2.toList.drop off).drop (n * csz e)).take (csz e) = c2 := by
          have l1 : locA w2 ((⟨b, off, none⟩ : Addr).add (n * csz e)) (((cur2.toList.drop off).drop (n * csz e)).take (csz e)) := locA_take _ (locA_drop _ (arr_loc harr2))
          rw [add_mk] at l1
          refine loc_unique l1 hk2 ?_
          rw [k3, hcl]
          have hfit := h2.fit
          have hlen := h2.len
          have : (n + 1) * csz e ≤ cap * csz e := Nat.mul_le_mul_right _ (by omega)
          rw [Nat.add_mul, Nat.one_mul] at this
          simp [hsz2]; omega
        have hB : ∀ q ∈ f1 ++ f3, w2.heap[q]? = w.heap[q]? := by
          intro q hq
          refine hw.other q ?_
          rintro rfl
          rcases k5 with ⟨k5, _⟩ | ⟨a2, ha2, k5, _⟩
          · simp only [List.mem_append] at hq k5
            rcases hq with hq | hq
            · exact hnd3.2.2 _ hq _ (by simp only [List.mem_append]; exact .inl k5) rfl
            · exact hnd4.2.2 _ (by simp only [List.mem_append]; exact k5) _ hq rfl
          · simp at ha2; subst ha2
            simp at k5; subst k5
            refine hnd2.1 ?_
            simp only [List.mem_append] at hq ⊢
            rcases hq with hq | hq
            · exact .inl hq
            · exact .inr (.inr hq)
        have hEL := h6 (RO w2 (max d d2) e) (cur2.toList.drop off) z2 (pre2 ++ (fy ++ post2)) (fun z c k hk hh => RO_le (Nat.le_max_left _ _) (RO_same _ _ _ _ _ (fun q hq => hB q (hk q hq)) hh)) ?_ (by rw [hc2]; exact RO_le (Nat.le_max_right _ _) hd2)
        · refine ⟨_, b :: (f1 ++ pre2), fn', post2 ++ f3, by simp, ?_, ?_, rfl, fun _ => rfl, .inl ⟨?_, rfl⟩⟩
          · unfold TR
            refine ⟨max d d2 + 1, .inr ⟨b, off, cap, cur2, et, f1 ++ ((pre2 ++ (fy ++ post2)) ++ f3), by simp, by simpa using harr2, by simp, hEL⟩⟩
          · intro a ha
            obtain ⟨m1, m2, m3⟩ := hA a ha
            refine locA_same ?_ m3
            refine hw.other _ ?_
            intro hab
            rcases k5 with ⟨k5, _⟩ | ⟨a2, ha2, k5, _⟩
            · exact m2 (by rw [hab]; simp only [List.mem_cons, List.mem_append] at k5 ⊢; exact .inr (.inr (.inl k5)))
            · simp at ha2; subst ha2
              exact m2 (by rw [hab, k5]; simp)
          · rcases k5 with ⟨k5, _⟩ | ⟨a2, ha2, k5, _⟩
            · simp only [List.mem_cons, List.mem_append] at k5 ⊢; exact .inr (.inr (.inl k5))
            · simp at ha2; subst ha2
              rw [k5]; simp
        · intro j hj hjl
          rw [List.drop_drop, List.drop_drop]
          refine chunk_ext fun k hk1 hk2 => hsame k ?_
          rcases Nat.lt_or_ge j n with hlt | hge
          · left
            have : (j + 1) * csz e ≤ n * csz e := Nat.mul_le_mul_right _ hlt
            rw [Nat.add_mul, Nat.one_mul] at this
            omega
          · right
            have : (n + 1) * csz e ≤ j * csz e := Nat.mul_le_mul_right _ (by omega)
            rw [Nat.add_mul, Nat.one_mul] at this
            omega
  | .f i :: p, _, .int _, _, _, _, _, _, _, _, _, _, _, _, h, _, _, _, _ | .f i :: p, _, .bool, _, _, _, _, _, _, _, _, _, _, _, h, _, _, _, _ | .f i :: p, _, .str, _, _, _, _, _, _, _, _, _, _, _, h, _, _, _, _ | .f i :: p, _, .sl _, _, _, _, _, _, _, _, _, _, _, _, h, _, _, _, _ => h.elim
  | .ix i :: p, _, .int _, _, _, _, _, _, _, _, _, _, _, _, h, _, _, _, _ | .ix i :: p, _, .bool, _, _, _, _, _, _, _, _, _, _, _, h, _, _, _, _ | .ix i :: p, _, .str, _, _, _, _, _, _, _, _, _, _, _, h, _, _, _, _ | .ix i :: p, _, .st _, _, _, _, _, _, _, _, _, _, _, _, h, _, _, _, _ => h.elim
end Net

/- What the slots say of the frame and of memory. -/
namespace Net
open Go
set_option linter.unusedVariables false

/-- A value out of its cells. -/
def mkV (t : Ty) (cs : List Value) : Value := match t with | .st _ => .agg cs.toArray | _ => cs.headD undef

theorem oneCells {w : World} {J : Nat → Prop} : ∀ (d : Nat) (t : Ty) (x : El t) (cs : List Value), RI w J d t x cs → ∀ v ∈ cs, v.oneCell' = true
  | 0, _, _, _, h => h.elim
  | d + 1, .int k, x, cs, h => by obtain ⟨rfl, _⟩ := h; simp [Value.oneCell']
  | d + 1, .bool, x, cs, h => by simp only [RI] at h; subst h; simp [Value.oneCell']
  | d + 1, .str, x, cs, h => by obtain ⟨rfl, _⟩ := h; simp [Value.oneCell']
  | d + 1, .sl e, x, cs, h => by
    rcases h with ⟨rfl, _⟩ | ⟨a, cap, rfl, _⟩ <;> simp [Value.oneCell']
  | d + 1, .st s, x, cs, h => by
    have : ∀ (ts : List Ty) (x : HL ts) (cs : List Value) (fp : List Nat), FL (fun t y c f => f = [] ∧ RI w J d t y c) ts x cs fp → ∀ v ∈ cs, v.oneCell' = true := by
      intro ts
      induction ts with
      | nil => intro x cs fp h v hv; obtain ⟨rfl, _⟩ := h; simp at hv
      | cons t ts ih =>
        intro x cs fp h v hv
        obtain ⟨c, c', f, f', rfl, rfl, ⟨_, h1⟩, h2⟩ := h
        rcases List.mem_append.1 hv with hv | hv
        · exact oneCells d t _ _ h1 v hv
        · exact ih _ _ _ h2 v hv
    exact this _ _ _ _ h

theorem cells_mkV {t : Ty} {cs : List Value} (hl : cs.length = csz t) (h1 : ∀ v ∈ cs, v.oneCell' = true) : (mkV t cs).cells.toList = cs := by
  cases t with
  | st s => simp [mkV, Value.cells]
  | _ =>
    match cs, hl with
    | [v], _ =>
      have := h1 v (by simp)
      simp only [mkV, List.headD_cons]
      cases v <;> simp_all [Value.cells, Value.oneCell']

/- what a call hands over and hands back -/
def KI (K : Nat → Prop) : Bool → Nat → Prop
  | true => K
  | false => fun _ => False

mutual
def noIp : Tag → Bool
  | .imm q => q
  | .st gs => noIps gs
  | .os g => noIp g
  | _ => true
def noIps : List Tag → Bool
  | [] => true
  | g :: gs => noIp g && noIps gs
end

mutual
theorem TR_mono {w : World} {I I' : Bool → Nat → Prop} (hI : ∀ k b, I k b → I' k b) : ∀ (g : Tag) (t : Ty) (x : El t) (cs : List Value) (fp : List Nat), TR w I g t x cs fp → TR w I' g t x cs fp
  | .imm q, t, x, cs, fp, h => by
    simp only [TR] at h ⊢
    obtain ⟨⟨d, hd⟩, hf⟩ := h
    exact ⟨⟨d, RI_same (hI q) (fun _ _ => rfl) d t x cs hd⟩, hf⟩
  | .own, t, x, cs, fp, h => by simpa only [TR] using h
  | .dead, t, x, cs, fp, h => by simpa only [TR] using h
  | .st gs, .st s, x, cs, fp, h => by simp only [TR] at h ⊢; exact TRL_mono hI gs _ _ cs fp h
  | .st gs, .int _, x, cs, fp, h | .st gs, .bool, x, cs, fp, h | .st gs, .str, x, cs, fp, h | .st gs, .sl _, x, cs, fp, h => by simp [TR] at h
  | .os g, .sl e, x, cs, fp, h => by
    simp only [TR] at h ⊢
    obtain ⟨b, off, cap, cur, et, f, h1, h2, h3, h4⟩ := h
    exact ⟨b, off, cap, cur, et, f, h1, h2, h3, EL_mono _ _ _ (fun y c k _ hh => TR_mono hI g e y c k hh) h4⟩
  | .os g, .int _, x, cs, fp, h | .os g, .bool, x, cs, fp, h | .os g, .str, x, cs, fp, h | .os g, .st _, x, cs, fp, h => by simp [TR] at h
theorem TRL_mono {w : World} {I I' : Bool → Nat → Prop} (hI : ∀ k b, I k b → I' k b) : ∀ (gs : List Tag) (ts : List Ty) (x : HL ts) (cs : List Value) (fp : List Nat), TRL w I gs ts x cs fp → TRL w I' gs ts x cs fp
  | [], [], _, _, _, h => by simpa only [TRL] using h
  | g :: gs, t :: ts, x, cs, fp, h => by
    simp only [TRL] at h ⊢
    obtain ⟨c, c', f, f', rfl, rfl, h1, h2⟩ := h
    exact ⟨c, c', f, f', rfl, rfl, TR_mono hI g t _ _ _ h1, TRL_mono hI gs ts _ _ _ h2⟩
  | [], _ :: _, _, _, _, h | _ :: _, [], _, _, _, h => by simp [TRL] at h
end
mutual
theorem TR_noIp {w : World} {I I' : Bool → Nat → Prop} (hI : ∀ b, I true b → I' true b) : ∀ (g : Tag) (t : Ty) (x : El t) (cs : List Value) (fp : List Nat), noIp g = true → TR w I g t x cs fp → TR w I' g t x cs fp
  | .imm q, t, x, cs, fp, hn, h => by
    simp only [noIp] at hn; subst hn
    simp only [TR] at h ⊢
    obtain ⟨⟨d, hd⟩, hf⟩ := h
    exact ⟨⟨d, RI_same hI (fun _ _ => rfl) d t x cs hd⟩, hf⟩
  | .own, t, x, cs, fp, _, h => by simpa only [TR] using h
  | .dead, t, x, cs, fp, _, h => by simpa only [TR] using h
  | .st gs, .st s, x, cs, fp, hn, h => by simp only [TR] at h ⊢; simp only [noIp] at hn; exact TRL_noIp hI gs _ _ cs fp hn h
  | .st gs, .int _, x, cs, fp, _, h | .st gs, .bool, x, cs, fp, _, h | .st gs, .str, x, cs, fp, _, h | .st gs, .sl _, x, cs, fp, _, h => by simp [TR] at h
  | .os g, .sl e, x, cs, fp, hn, h => by
    simp only [TR] at h ⊢
    simp only [noIp] at hn
    obtain ⟨b, off, cap, cur, et, f, h1, h2, h3, h4⟩ := h
    exact ⟨b, off, cap, cur, et, f, h1, h2, h3, EL_mono _ _ _ (fun y c k _ hh => TR_noIp hI g e y c k hn hh) h4⟩
  | .os g, .int _, x, cs, fp, _, h | .os g, .bool, x, cs, fp, _, h | .os g, .str, x, cs, fp, _, h | .os g, .st _, x, cs, fp, _, h => by simp [TR] at h
theorem TRL_noIp {w : World} {I I' : Bool → Nat → Prop} (hI : ∀ b, I true b → I' true b) : ∀ (gs : List Tag) (ts : List Ty) (x : HL ts) (cs : List Value) (fp : List Nat), noIps gs = true → TRL w I gs ts x cs fp → TRL w I' gs ts x cs fp
  | [], [], _, _, _, _, h => by simpa only [TRL] using h
  | g :: gs, t :: ts, x, cs, fp, hn, h => by
    simp only [TRL] at h ⊢
    simp only [noIps, Bool.and_eq_true] at hn
    obtain ⟨c, c', f, f', rfl, rfl, h1, h2⟩ := h
    exact ⟨c, c', f, f', rfl, rfl, TR_noIp hI g t _ _ _ hn.1 h1, TRL_noIp hI gs ts _ _ _ hn.2 h2⟩
  | [], _ :: _, _, _, _, _, h | _ :: _, [], _, _, _, _, h => by simp [TRL] at h
end

def isBox (w : World) (b : Nat) (cs : List Value) : Prop := ∃ et, w.heap[b]? = some (.cells cs.toArray et (0, 0))

/-- What a call leaves as it was: every block that was there, but for some. -/
structure Frm (w w' : World) (fp : List Nat) : Prop where
  os : w'.os = w.os
  tape : w'.tape = w.tape
  output : w'.output = w.output
  size : w.heap.size ≤ w'.heap.size
  block : ∀ b, b < w.heap.size → b ∉ fp → w'.heap[b]? = w.heap[b]?

def Callable (P : Program) (n : Nat) : Prop := ∃ fn, P.funcs[n]? = some fn ∧ (fn.name == "runtime.NumGoroutine") = false ∧ fn.body.isNone = false

def Vals (w : World) (J : Nat → Prop) : (as : List Ty) → HL as → List Value → Prop
  | [], _, vs => vs = []
  | t :: ts, x, vs => ∃ d cs vs', vs = mkV t cs :: vs' ∧ RI w J d t x.1 cs ∧ Vals w J ts x.2 vs'

/-- A function value: what a call of it does, in any memory in which what it reads lies as it did. -/
def CloOK (P : Program) (w : World) (J : Nat → Prop) (as : List Ty) (r : Ty) (Fn : HL as → Option (El r)) (v : Value) : Prop :=
  ∃ n caps, v = .func (.func n) #[] caps ∧ Callable P n ∧
    ∀ (w' : World), (∀ b, J b → w'.heap[b]? = w.heap[b]?) → w.heap.size ≤ w'.heap.size → ∀ (vs : List Value) (x : HL as) (y : El r), Vals w' (fun b => b < w'.heap.size) as x vs → Fn x = some y →
      Calls P n (vs.toArray ++ caps) w' fun e w'' => ∃ cs, e = .returned (mkV r cs) ∧ PV r y cs ∧ Frm w' w'' []

def ArgsOK (P : Program) (w : World) (J K : Nat → Prop) : (ps : List PK) → Args ps → List Value → List Nat → Prop
  | [], _, vs, fp => vs = [] ∧ fp = []
  | .val t esc :: ps, x, vs, fp => ∃ d cs vs', vs = mkV t cs :: vs' ∧ RI w (match esc with | true => K | false => J) d t x.1 cs ∧ ArgsOK P w J K ps x.2 vs' fp
  | .cp t :: ps, x, vs, fp => ∃ d a cs vs', vs = .pointer (some a) :: vs' ∧ locA w a cs ∧ J a.block ∧ RI w J d t x.1 cs ∧ ArgsOK P w J K ps x.2 vs' fp
  | .io t g :: ps, x, vs, fp => ∃ b cs f vs' fp', vs = .pointer (some ⟨b, 0, none⟩) :: vs' ∧ fp = b :: (f ++ fp') ∧ isBox w b cs ∧ TR w (KI K) g t x.1 cs f ∧ ArgsOK P w J K ps x.2 vs' fp'
  | .ios t :: ps, x, vs, fp => ∃ d cs f vs' fp', vs = mkV t cs :: vs' ∧ fp = f ++ fp' ∧ RO w d t x.1 cs f ∧ ArgsOK P w J K ps x.2 vs' fp'
  | .fn as r :: ps, x, vs, fp => ∃ v vs', vs = v :: vs' ∧ plainT r = true ∧ CloOK P w J as r x.1 v ∧ ArgsOK P w J K ps x.2 vs' fp

def IoOK (w : World) (K : Nat → Prop) : (ps : List PK) → IoL ps → List Value → List Nat → Prop
  | [], _, vs, fp => fp = []
  | .val _ _ :: ps, x, vs, fp => ∃ v vs', vs = v :: vs' ∧ IoOK w K ps x vs' fp
  | .cp _ :: ps, x, vs, fp => ∃ v vs', vs = v :: vs' ∧ IoOK w K ps x vs' fp
  | .fn _ _ :: ps, x, vs, fp => ∃ v vs', vs = v :: vs' ∧ IoOK w K ps x vs' fp
  | .io t g :: ps, x, vs, fp => ∃ b cs f vs' fp', vs = .pointer (some ⟨b, 0, none⟩) :: vs' ∧ fp = b :: (f ++ fp') ∧ isBox w b cs ∧ TR w (KI K) g t x.1 cs f ∧ IoOK w K ps x.2 vs' fp'
  | .ios t :: ps, x, vs, fp => ∃ d cs f vs' fp', vs = mkV t cs :: vs' ∧ fp = f ++ fp' ∧ RO w d t x.1 cs f ∧ IoOK w K ps x.2 vs' fp'

def ResL (w : World) (K : Nat → Prop) : (rs : List RK) → RL rs → List Value → List Nat → Prop
  | [], _, vs, fp => vs = [] ∧ fp = []
  | .v t g :: rs, x, vs, fp => ∃ cs f vs' fp', vs = mkV t cs :: vs' ∧ fp = f ++ fp' ∧ TR w (KI K) g t x.1 cs f ∧ ResL w K rs x.2 vs' fp'
  | .pb t g :: rs, x, vs, fp => ∃ b cs f vs' fp', vs = .pointer (some ⟨b, 0, none⟩) :: vs' ∧ fp = b :: (f ++ fp') ∧ isBox w b cs ∧ TR w (KI K) g t x.1 cs f ∧ ResL w K rs x.2 vs' fp'

/-- Several results are a tuple. -/
def packV : List Value → Value
  | [v] => v
  | vs => .tuple vs.toArray

structure OutOK (w w' : World) (K : Nat → Prop) (sg : Sig) (o : IoL sg.ps × RL sg.rs) (vs : List Value) (fp : List Nat) (v : Value) : Prop where
  is : ∃ rv fr fio, v = packV rv ∧ ResL w' K sg.rs o.2 rv fr ∧ IoOK w' K sg.ps o.1 vs fio ∧ (fr ++ fio).Nodup ∧ ∀ b ∈ fr ++ fio, b < w'.heap.size ∧ (b ∈ fp ∨ w.heap.size ≤ b)
  frm : Frm w w' fp

/-- THE CONTRACT: called with what its arguments say, a function returns what the plain one does. -/
def Sound (P : Program) (n : Nat) (sg : Sig) : Prop := Callable P n ∧
  ∀ (w : World) (J K : Nat → Prop) (x : Args sg.ps) (vs : List Value) (fp : List Nat) (o : sg.O), (∀ b, K b → J b) → (∀ b, J b → b < w.heap.size ∧ b ∉ fp) → fp.Nodup → (∀ b ∈ fp, b < w.heap.size) →
    ArgsOK P w J K sg.ps x vs fp → sg.F x = some o → Calls P n vs.toArray w fun e w' => ∃ v, e = .returned v ∧ OutOK w w' K sg (sg.out o) vs fp v

/- the context of a function's body -/
structure Cx where
  P : Program
  E : Tb
  w0 : World
  M : Nat → Prop
  K : Nat → Prop
  fix : List (Nat × Value)

/-- Memory that nobody changes while the call runs. -/
def Cx.Ip (c : Cx) (b : Nat) : Prop := b < c.w0.heap.size ∧ ¬ c.M b
def Cx.I (c : Cx) : Bool → Nat → Prop
  | true => c.K
  | false => c.Ip

def val (c : Cx) (a : Act) (G : Nat → Value) (s : Nat) : Value := if s < c.E.nt then a.tmps.getD s undef else G s

/-- What a slot that owns something holds: its content under its tag, where that lies. -/
inductive Root (I : Bool → Nat → Prop) (w : World) (v : Value) : AV → List Nat → (tr : Ty) → El tr → Tag → Option Addr → List Value → List Nat → Prop
  | own {tr : Ty} {xr : El tr} {gr : Tag} {cs : List Value} {f : List Nat} : v = mkV tr cs → TR w I gr tr xr cs f → Root I w v (.own tr xr gr) f tr xr gr none cs f
  | box {tr : Ty} {xr : El tr} {gr : Tag} {cs : List Value} {f : List Nat} {b : Nat} : v = .pointer (some ⟨b, 0, none⟩) → isBox w b cs → TR w I gr tr xr cs f → Root I w v (.box tr xr gr) (b :: f) tr xr gr (some ⟨b, 0, none⟩) cs f

/-- What an alias may be used for. -/
structure AlF (I : Bool → Nat → Prop) (w : World) (t : Ty) (x : El t) (c : List Value) (S : Nat → Prop) (tr : Ty) (xr : El tr) (gr : Tag) (cs : List Value) (f : List Nat) (st : List Step) : Prop where
  view : ∃ d, RI w S d t x c
  imm : ∀ q, tagAt gr st = .imm q → ∃ d, RI w (I q) d t x c
  take : ∀ gk, aliveT t (tagAt gr st) = true → killT tr gr st = some gk → ∃ fa rest, (fa ++ rest).Nodup ∧ (∀ b ∈ fa ++ rest, b ∈ f) ∧ TR w I (tagAt gr st) t x c fa ∧ TR w I gk tr xr cs rest

def srcJ (c : Cx) (F : Nat → List Nat) : VS → Nat → Prop
  | .ip => c.Ip
  | .k => c.K
  | .slot r _ => fun b => c.Ip b ∨ b ∈ F r
def srcLive (σ : St) : VS → Prop
  | .slot r m => m = (σ r).2
  | _ => True
def srcPast (σ : St) : VS → Prop
  | .slot r m => m ≤ (σ r).2
  | _ => True

def SlotV (c : Cx) (σ : St) (vl : Nat → Value) (w : World) (F : Nat → List Nat) (G : Nat → Value) (v : Value) (f : List Nat) : AV → Prop
  | .dead => True
  | .und => v = undef
  | .own t x g => ∃ cs, v = mkV t cs ∧ TR w c.I g t x cs f
  | .vw t x q => srcPast σ q ∧ (srcLive σ q → ∃ d cs, v = mkV t cs ∧ RI w (srcJ c F q) d t x cs)
  | .al t x r m up ex => m ≤ (σ r).2 ∧ (m = (σ r).2 → ∃ cs tr xr gr A rc fr, v = mkV t cs ∧ Root c.I w (vl r) (σ r).1 (F r) tr xr gr A rc fr ∧ AlF c.I w t x cs (fun b => c.Ip b ∨ b ∈ F r) tr xr gr rc fr (stepsOf up) ∧
      (ex = true → Chain up t x tr xr ∧ ∃ A', PathTo w (fun b => c.Ip b ∨ b ∈ F r) tr A rc (stepsOf up) A' cs))
  | .box t x g => ∃ b cs f', v = .pointer (some ⟨b, 0, none⟩) ∧ isBox w b cs ∧ TR w c.I g t x cs f' ∧ f = b :: f'
  | .ptr t x r m up => m ≤ (σ r).2 ∧ (m = (σ r).2 → ∃ ad cs tr xr gr A rc fr, v = .pointer (some ad) ∧ Root c.I w (vl r) (σ r).1 (F r) tr xr gr A rc fr ∧ Chain up t x tr xr ∧ PathTo w (fun b => c.Ip b ∨ b ∈ F r) tr A rc (stepsOf up) (some ad) cs)
  | .bcp t s => isIo s c.E.io = true ∧ s < c.E.nt ∧ ∃ b cs, v = .pointer (some ⟨b, 0, none⟩) ∧ isBox w b cs ∧ vl s = mkV t cs ∧ cs.length = csz t ∧ f = [b]
  | .pcp t u s p rb m => m ≤ (σ rb).2 ∧ (m = (σ rb).2 → isIo s c.E.io = true ∧ s < c.E.nt ∧ ∃ b o cs, v = .pointer (some ⟨b, o, none⟩) ∧ addrTy t p = some (u, o) ∧ isBox w b cs ∧ vl s = mkV t cs ∧ cs.length = csz t ∧ b ∈ F rb)
  | .pvw t x q => srcPast σ q ∧ (srcLive σ q → ∃ d a cs, v = .pointer (some a) ∧ locA w a cs ∧ srcJ c F q a.block ∧ RI w (srcJ c F q) d t x cs)
  | .tup s k m => m ≤ (σ (s + 3)).2 ∧ k < 4 ∧ c.E.nt ≤ s ∧ (m = (σ (s + 3)).2 → ∃ vs : Array Value, v = .tuple vs ∧ ∀ i, i < k → vs[i]? = some (G (s + i)))
  | .clo as r Fn q => (∀ z ∈ q, z.2 ≤ (σ z.1).2) ∧ ((∀ z ∈ q, z.2 = (σ z.1).2) → plainT r = true ∧ CloOK c.P w (fun b => c.Ip b ∨ ∃ z ∈ q, b ∈ F z.1) as r Fn v)

/-- THE SIMULATION: what is known of the frame and of memory; 'X': blocks that no slot owns just now. -/
structure Sim (c : Cx) (σ : St) (a : Act) (w : World) (X : List Nat) (F : Nat → List Nat) (G : Nat → Value) : Prop where
  defers : a.defers = []
  size : a.tmps.size = c.E.nt
  grow : c.w0.heap.size ≤ w.heap.size
  keep : ∀ b, c.Ip b → w.heap[b]? = c.w0.heap[b]?
  kip : ∀ b, c.K b → c.Ip b
  os : w.os = c.w0.os
  tape : w.tape = c.w0.tape
  output : w.output = c.w0.output
  old : ∀ b, b < c.w0.heap.size → ¬ c.M b → w.heap[b]? = c.w0.heap[b]?
  nodup : ∀ s, (F s).Nodup
  disj : ∀ s s', s ≠ s' → ∀ b ∈ F s, b ∉ F s'
  rng : ∀ s, ∀ b ∈ F s, b < w.heap.size ∧ (c.M b ∨ c.w0.heap.size ≤ b)
  xnodup : X.Nodup
  xdisj : ∀ s, ∀ b ∈ F s, b ∉ X
  xrng : ∀ b ∈ X, b < w.heap.size ∧ (c.M b ∨ c.w0.heap.size ≤ b)
  slot : ∀ s, SlotV c σ (val c a G) w F G (val c a G s) (F s) (σ s).1
  fixed : ∀ z ∈ c.fix, a.tmps.getD z.1 undef = z.2 ∧ isIo z.1 c.E.io = true

theorem Cx.not_ip {c : Cx} {b : Nat} (h : c.M b ∨ c.w0.heap.size ≤ b) : ¬ c.Ip b := by
  rintro ⟨h1, h2⟩
  rcases h with h | h
  · exact h2 h
  · omega

theorem isBox_same {w w' : World} {b : Nat} {cs : List Value} (h : w'.heap[b]? = w.heap[b]?) (hb : isBox w b cs) : isBox w' b cs := by
  obtain ⟨et, he⟩ := hb
  exact ⟨et, by rw [h, he]⟩
theorem Root_same {I : Bool → Nat → Prop} {w w' : World} {v : Value} {av : AV} {fp : List Nat} {tr : Ty} {xr : El tr} {gr : Tag} {A : Option Addr} {cs : List Value} {f : List Nat} (hI : ∀ k b, I k b → w'.heap[b]? = w.heap[b]?) (hf : ∀ b ∈ fp, w'.heap[b]? = w.heap[b]?)
    (h : Root I w v av fp tr xr gr A cs f) : Root I w' v av fp tr xr gr A cs f := by
  cases h with
  | own h1 h2 => exact .own h1 (TR_same hI _ _ _ _ _ hf h2)
  | box h1 h2 h3 => exact .box h1 (isBox_same (hf _ (by simp)) h2) (TR_same hI _ _ _ _ _ (fun b hb => hf b (by simp [hb])) h3)
theorem Root_sub {I : Bool → Nat → Prop} {w : World} {v : Value} {av : AV} {fp : List Nat} {tr : Ty} {xr : El tr} {gr : Tag} {A : Option Addr} {cs : List Value} {f : List Nat} (h : Root I w v av fp tr xr gr A cs f) : ∀ b ∈ f, b ∈ fp := by
  cases h with
  | own h1 h2 => exact fun b hb => hb
  | box h1 h2 h3 => exact fun b hb => by simp [hb]
theorem AlF_same {I : Bool → Nat → Prop} {w w' : World} {t : Ty} {x : El t} {c : List Value} {S S' : Nat → Prop} {tr : Ty} {xr : El tr} {gr : Tag} {cs : List Value} {f : List Nat} {st : List Step} (hI : ∀ k b, I k b → w'.heap[b]? = w.heap[b]?) (hf : ∀ b ∈ f, w'.heap[b]? = w.heap[b]?)
    (hS : ∀ b, S b → S' b) (hw : ∀ b, S b → w'.heap[b]? = w.heap[b]?) (h : AlF I w t x c S tr xr gr cs f st) : AlF I w' t x c S' tr xr gr cs f st := by
  refine ⟨?_, ?_, ?_⟩
  · obtain ⟨d, hd⟩ := h.view; exact ⟨d, RI_same hS hw _ _ _ _ hd⟩
  · intro q hq; obtain ⟨d, hd⟩ := h.imm q hq; exact ⟨d, RI_same (fun _ h => h) (hI q) _ _ _ _ hd⟩
  · intro gk ha hk
    obtain ⟨fa, rest, h1, h2, h3, h4⟩ := h.take gk ha hk
    exact ⟨fa, rest, h1, h2, TR_same hI _ _ _ _ _ (fun b hb => hf b (h2 b (by simp [hb]))) h3, TR_same hI _ _ _ _ _ (fun b hb => hf b (h2 b (by simp [hb]))) h4⟩

theorem CloOK_same {P : Program} {w w' : World} {J J' : Nat → Prop} {as : List Ty} {r : Ty} {Fn : HL as → Option (El r)} {v : Value} (hJ : ∀ b, J b → J' b) (hw : ∀ b, J b → w'.heap[b]? = w.heap[b]?) (hs : w.heap.size ≤ w'.heap.size) (h : CloOK P w J as r Fn v) : CloOK P w' J' as r Fn v := by
  obtain ⟨n, caps, h1, h2, h3⟩ := h
  exact ⟨n, caps, h1, h2, fun w'' hw'' hs'' => h3 w'' (fun b hb => (hw'' b (hJ b hb)).trans (hw b hb)) (Nat.le_trans hs hs'')⟩

/-- What some slots and some memory are changed for leaves the others as they were. -/
theorem SlotV.stable {c : Cx} {σ σ' : St} {vl vl' : Nat → Value} {w w' : World} {F F' : Nat → List Nat} {G G' : Nat → Value} {v : Value} {f : List Nat} {av : AV} (K : Nat → Prop)
    (hσ : ∀ r, ¬ K r → σ' r = σ r) (hv : ∀ r, K r → (σ r).2 < (σ' r).2) (hvl : ∀ r, ¬ K r → vl' r = vl r) (hF : ∀ r, ¬ K r → F' r = F r) (hw : ∀ r, ¬ K r → ∀ b ∈ F r, w'.heap[b]? = w.heap[b]?)
    (hip : ∀ b, c.Ip b → w'.heap[b]? = w.heap[b]?) (hk : ∀ b, c.K b → c.Ip b) (hs : w.heap.size ≤ w'.heap.size) (hG : ∀ s i, c.E.nt ≤ s → ¬ K (s + 3) → i < 3 → G' (s + i) = G (s + i)) (hf : ∀ b ∈ f, w'.heap[b]? = w.heap[b]?) (hio : ∀ s, isIo s c.E.io = true → s < c.E.nt → vl' s = vl s)
    (h : SlotV c σ vl w F G v f av) : SlotV c σ' vl' w' F' G' v f av := by
  have hle : ∀ r, (σ r).2 ≤ (σ' r).2 := fun r => by
    by_cases hr : K r
    · exact Nat.le_of_lt (hv r hr)
    · rw [hσ r hr]; exact Nat.le_refl _
  have hnk : ∀ r m, m ≤ (σ r).2 → m = (σ' r).2 → ¬ K r ∧ m = (σ r).2 := fun r m h1 h2 => by
    by_cases hr : K r
    · have := hv r hr; omega
    · exact ⟨hr, by rw [h2, hσ r hr]⟩
  have hI : ∀ k b, c.I k b → w'.heap[b]? = w.heap[b]? := by
    intro k b hb
    cases k with
    | true => exact hip b (hk b hb)
    | false => exact hip b hb
  have hsrcP : ∀ q, srcPast σ q → srcPast σ' q := by
    intro q hq
    cases q with
    | slot r m => exact Nat.le_trans hq (hle r)
    | _ => trivial
  have hsrcL : ∀ q, srcPast σ q → srcLive σ' q → srcLive σ q ∧ (∀ b, srcJ c F q b → srcJ c F' q b) ∧ (∀ b, srcJ c F q b → w'.heap[b]? = w.heap[b]?) := by
    intro q hp hl
    cases q with
    | ip => exact ⟨trivial, fun _ h => h, fun b hb => hip b hb⟩
    | k => exact ⟨trivial, fun _ h => h, fun b hb => hip b (hk b hb)⟩
    | slot r m =>
      obtain ⟨hr, hm⟩ := hnk r m hp hl
      refine ⟨hm, fun b hb => ?_, fun b hb => ?_⟩
      · simp only [srcJ] at hb ⊢; rw [hF r hr]; exact hb
      · rcases hb with hb | hb
        · exact hip b hb
        · exact hw r hr b hb
  cases av with
  | dead => trivial
  | und => exact h
  | own t x g =>
    obtain ⟨cs, h1, h2⟩ := h
    exact ⟨cs, h1, TR_same hI _ _ _ _ _ hf h2⟩
  | vw t x q =>
    obtain ⟨hp, h⟩ := h
    refine ⟨hsrcP q hp, fun hl => ?_⟩
    obtain ⟨h1, h2, h3⟩ := hsrcL q hp hl
    obtain ⟨d, cs, h4, h5⟩ := h h1
    exact ⟨d, cs, h4, RI_same h2 h3 _ _ _ _ h5⟩
  | al t x r m up ex =>
    obtain ⟨hp, h⟩ := h
    refine ⟨Nat.le_trans hp (hle r), fun hm => ?_⟩
    obtain ⟨hr, hm⟩ := hnk r m hp hm
    obtain ⟨cs, tr, xr, gr, A, rc, fr, h1, h2, h3, h4⟩ := h hm
    have hSw : ∀ b, (c.Ip b ∨ b ∈ F r) → w'.heap[b]? = w.heap[b]? := fun b hb => hb.elim (hip b) (hw r hr b)
    refine ⟨cs, tr, xr, gr, A, rc, fr, h1, ?_, ?_, ?_⟩
    · rw [hvl r hr, hσ r hr, hF r hr]; exact Root_same hI (hw r hr) h2
    · rw [hF r hr]; exact AlF_same hI (fun b hb => hw r hr b (Root_sub h2 b hb)) (fun _ h => h) hSw h3
    · intro hex
      obtain ⟨h5, A', h6⟩ := h4 hex
      refine ⟨h5, A', ?_⟩
      rw [hF r hr]; exact PathTo_same (fun _ h => h) hSw _ _ _ _ _ _ h6
  | box t x g =>
    obtain ⟨b, cs, f', h1, h2, h3, h4⟩ := h
    subst h4
    exact ⟨b, cs, f', h1, isBox_same (hf b (by simp)) h2, TR_same hI _ _ _ _ _ (fun q hq => hf q (by simp [hq])) h3, rfl⟩
  | ptr t x r m up =>
    obtain ⟨hp, h⟩ := h
    refine ⟨Nat.le_trans hp (hle r), fun hm => ?_⟩
    obtain ⟨hr, hm⟩ := hnk r m hp hm
    obtain ⟨ad, cs, tr, xr, gr, A, rc, fr, h1, h2, h3, h4⟩ := h hm
    have hSw : ∀ b, (c.Ip b ∨ b ∈ F r) → w'.heap[b]? = w.heap[b]? := fun b hb => hb.elim (hip b) (hw r hr b)
    refine ⟨ad, cs, tr, xr, gr, A, rc, fr, h1, ?_, h3, ?_⟩
    · rw [hvl r hr, hσ r hr, hF r hr]; exact Root_same hI (hw r hr) h2
    · rw [hF r hr]; exact PathTo_same (fun _ h => h) hSw _ _ _ _ _ _ h4
  | bcp t s =>
    obtain ⟨h1, h2, b, cs, h3, h4, h5, h6, h7⟩ := h
    exact ⟨h1, h2, b, cs, h3, isBox_same (hf b (by rw [h7]; simp)) h4, (hio s h1 h2).trans h5, h6, h7⟩
  | pcp t u s p rb m =>
    obtain ⟨hp, h⟩ := h
    refine ⟨Nat.le_trans hp (hle rb), fun hm => ?_⟩
    obtain ⟨hr, hm⟩ := hnk rb m hp hm
    obtain ⟨h1, h2, b, o, cs, h3, h4, h5, h6, h7, h8⟩ := h hm
    exact ⟨h1, h2, b, o, cs, h3, h4, isBox_same (hw rb hr b h8) h5, (hio s h1 h2).trans h6, h7, by rw [hF rb hr]; exact h8⟩
  | pvw t x q =>
    obtain ⟨hp, h⟩ := h
    refine ⟨hsrcP q hp, fun hl => ?_⟩
    obtain ⟨h1, h2, h3⟩ := hsrcL q hp hl
    obtain ⟨d, a, cs, h4, h5, h6, h7⟩ := h h1
    exact ⟨d, a, cs, h4, locA_same (h3 _ h6) h5, h2 _ h6, RI_same h2 h3 _ _ _ _ h7⟩
  | tup s k m =>
    obtain ⟨hp, hk4, hnt, h⟩ := h
    refine ⟨Nat.le_trans hp (hle _), hk4, hnt, fun hm => ?_⟩
    obtain ⟨hr, hm⟩ := hnk _ m hp hm
    obtain ⟨vs, h1, h2⟩ := h hm
    exact ⟨vs, h1, fun i hi => by rw [hG s i hnt hr (by omega)]; exact h2 i hi⟩
  | clo as r Fn q =>
    obtain ⟨hp, h⟩ := h
    refine ⟨fun z hz => Nat.le_trans (hp z hz) (hle _), fun hm => ?_⟩
    have hz : ∀ z ∈ q, ¬ K z.1 ∧ z.2 = (σ z.1).2 := fun z hz => hnk _ _ (hp z hz) (hm z hz)
    obtain ⟨h1, h2⟩ := h (fun z hz' => (hz z hz').2)
    refine ⟨h1, CloOK_same (fun b hb => ?_) (fun b hb => ?_) hs h2⟩
    · rcases hb with hb | ⟨z, hz', hb⟩
      · exact .inl hb
      · exact .inr ⟨z, hz', by rw [hF _ (hz z hz').1]; exact hb⟩
    · rcases hb with hb | ⟨z, hz', hb⟩
      · exact hip b hb
      · exact hw _ (hz z hz').1 b hb
end Net

/- Programs over slots against the simulation: what is changed at once; reading and taking over. -/
namespace Net
open Go
set_option linter.unusedVariables false

def Mp.run : Mp → St → Option St
  | .done, σ => some σ
  | .fail, _ => none
  | .get s m, σ => (m (σ s).1 (σ s).2).run σ
  | .set s v m, σ => m.run (σ.set s v)
  | .cond b t e, σ => _root_.cond b (t.run σ) (e.run σ)
  | .br s t e u, σ => match σ s with
    | (.own .bool b .own, _) => _root_.cond b (t.run σ) (e.run σ)
    | (.und, _) => u.run σ
    | _ => none
  | .bnd o m, σ => o.bind fun x => (m x).run σ
theorem St.ref_same {σ : St} {s n : Nat} {b : Bool} (h : σ s = (.own .bool b .own, n)) : σ.ref s n b = σ := by
  funext i
  simp only [St.ref]
  cases hb : Nat.beq i s with
  | true => have := Nat.eq_of_beq_eq_true hb; subst this; exact h.symm
  | false => rfl
theorem Mp.ev_run {α : Type} : ∀ (m : Mp) (σ : St) (k : St → Option α), m.ev σ k = (m.run σ).bind k
  | .done, σ, k => rfl
  | .fail, _, _ => rfl
  | .get s m, σ, k => by simp only [Mp.ev, Mp.run]; exact Mp.ev_run _ _ _
  | .set s v m, σ, k => by simp only [Mp.ev, Mp.run]; exact Mp.ev_run _ _ _
  | .cond b t e, σ, k => by cases b <;> simp only [Mp.ev, Mp.run, cond_true, cond_false] <;> exact Mp.ev_run _ _ _
  | .br s t e u, σ, k => by
    rcases h : σ s with ⟨av, n⟩
    cases av with
    | own ty x g =>
      cases ty with
      | bool =>
        cases g with
        | own =>
          have hr : ∀ b, x = b → σ.ref s n b = σ := fun b hb => St.ref_same (by rw [h, hb])
          simp only [Mp.ev, Mp.run, h]
          cases x with
          | true => simp only [cond_true]; rw [hr true rfl]; exact Mp.ev_run _ _ _
          | false => simp only [cond_false]; rw [hr false rfl]; exact Mp.ev_run _ _ _
        | _ => simp [Mp.ev, Mp.run, h]
      | _ => simp [Mp.ev, Mp.run, h]
    | und => simp only [Mp.ev, Mp.run, h]; exact Mp.ev_run _ _ _
    | _ => simp [Mp.ev, Mp.run, h]
  | .bnd o m, σ, k => by cases o <;> simp only [Mp.ev, Mp.run, Option.bind_some, Option.bind_none]; exact Mp.ev_run _ _ _
theorem chk_run {b : Bool} {m : Mp} {σ σ' : St} (h : (chk b m).run σ = some σ') : b = true ∧ m.run σ = some σ' := by
  cases b
  · simp [chk, Mp.run] at h
  · exact ⟨rfl, h⟩
theorem bnd_run {α : Type} {o : Option α} {m : α → Mp} {σ σ' : St} (h : (Mp.bnd o m).run σ = some σ') : ∃ x, o = some x ∧ (m x).run σ = some σ' := by
  cases o with
  | none => simp [Mp.run] at h
  | some x => exact ⟨x, rfl, h⟩

@[simp] theorem St.set_same (σ : St) (s : Nat) (v : AV) : σ.set s v s = (v, (σ s).2 + 1) := by simp [St.set]
theorem St.set_other (σ : St) (s r : Nat) (v : AV) (h : r ≠ s) : σ.set s v r = σ r := by
  simp only [St.set]
  have : Nat.beq r s = false := by
    cases hb : Nat.beq r s
    · rfl
    · exact absurd (Nat.eq_of_beq_eq_true hb) h
  rw [this]

/-- Several slots are changed at once, with what floats and with new memory. -/
theorem Sim.multi {c : Cx} {σ σ' : St} {a a' : Act} {w w' : World} {X X' : List Nat} {F F' : Nat → List Nat} {G G' : Nat → Value} (h : Sim c σ a w X F G) (K : Nat → Prop)
    (hσ : ∀ r, ¬ K r → σ' r = σ r) (hv : ∀ r, K r → (σ r).2 < (σ' r).2) (hval : ∀ r, ¬ K r → val c a' G' r = val c a G r) (hF : ∀ r, ¬ K r → F' r = F r)
    (hw : ∀ b, b < w.heap.size → (∀ r, K r → b ∉ F r) → b ∉ X → w'.heap[b]? = w.heap[b]?)
    (hG : ∀ s i, c.E.nt ≤ s → ¬ K (s + 3) → i < 3 → G' (s + i) = G (s + i)) (hs : w.heap.size ≤ w'.heap.size) (hos : w'.os = w.os) (htape : w'.tape = w.tape) (hout : w'.output = w.output)
    (hdef : a'.defers = []) (hsize : a'.tmps.size = c.E.nt) (hfix : ∀ s, isIo s c.E.io = true → a'.tmps.getD s undef = a.tmps.getD s undef)
    (hnod : ∀ s, K s → (F' s).Nodup) (hsub : ∀ s, K s → ∀ b ∈ F' s, b < w'.heap.size ∧ (b ∈ X ∨ (∃ r, K r ∧ b ∈ F r) ∨ w.heap.size ≤ b)) (hdisj : ∀ s s', K s → K s' → s ≠ s' → ∀ b ∈ F' s, b ∉ F' s')
    (hxn : X'.Nodup) (hxs : ∀ b ∈ X', b < w'.heap.size ∧ (b ∈ X ∨ (∃ r, K r ∧ b ∈ F r) ∨ w.heap.size ≤ b)) (hxd : ∀ s, K s → ∀ b ∈ F' s, b ∉ X')
    (hslot : ∀ s, K s → SlotV c σ' (val c a' G') w' F' G' (val c a' G' s) (F' s) (σ' s).1) : Sim c σ' a' w' X' F' G' := by
  have hMw : ∀ b, b < c.w0.heap.size → ¬ c.M b → w'.heap[b]? = w.heap[b]? := by
    intro b hb hm
    have hn : ∀ q : Nat, (c.M q ∨ c.w0.heap.size ≤ q) → b ≠ q := by rintro q (h1 | h1) rfl; exact hm h1; omega
    refine hw b (by have := h.grow; omega) (fun r _ hbr => hn b (h.rng r b hbr).2 rfl) (fun hbx => hn b (h.xrng b hbx).2 rfl)
  have hIp : ∀ b, c.Ip b → w'.heap[b]? = w.heap[b]? := fun b hb => hMw b hb.1 hb.2
  have horg : ∀ b, (b ∈ X ∨ (∃ r, K r ∧ b ∈ F r) ∨ w.heap.size ≤ b) → (c.M b ∨ c.w0.heap.size ≤ b) := by
    rintro b (hb | ⟨r, _, hb⟩ | hb)
    · exact (h.xrng b hb).2
    · exact (h.rng r b hb).2
    · exact .inr (Nat.le_trans h.grow hb)
  have hoth : ∀ r, ¬ K r → ∀ b ∈ F r, w'.heap[b]? = w.heap[b]? := by
    intro r hr b hb
    refine hw b (h.rng r b hb).1 (fun r' hr' hb' => ?_) (h.xdisj r b hb)
    exact h.disj r r' (by rintro rfl; exact hr hr') b hb hb'
  -- what comes from what was changed lies in no slot that was not
  have hclash : ∀ b, (b ∈ X ∨ (∃ r, K r ∧ b ∈ F r) ∨ w.heap.size ≤ b) → ∀ r, ¬ K r → b ∉ F r := by
    rintro b (hb | ⟨r', hr', hb⟩ | hb) r hr hbr
    · exact h.xdisj r b hbr hb
    · exact h.disj r' r (by rintro rfl; exact hr hr') b hb hbr
    · have := (h.rng r b hbr).1; omega
  refine { defers := hdef, size := hsize, grow := Nat.le_trans h.grow hs, keep := fun b hb => (hIp b hb).trans (h.keep b hb), kip := h.kip, os := hos.trans h.os, tape := htape.trans h.tape, output := hout.trans h.output,
           old := fun b hb hm => (hMw b hb hm).trans (h.old b hb hm), nodup := ?_, disj := ?_, rng := ?_, xnodup := hxn, xdisj := ?_, xrng := fun b hb => ⟨(hxs b hb).1, horg b (hxs b hb).2⟩, slot := ?_, fixed := ?_ }
  · intro s
    by_cases hk : K s
    · exact hnod s hk
    · rw [hF s hk]; exact h.nodup s
  · intro s s' hne b hb hb'
    by_cases hk : K s <;> by_cases hk' : K s'
    · exact hdisj s s' hk hk' hne b hb hb'
    · rw [hF s' hk'] at hb'
      exact hclash b (hsub s hk b hb).2 s' hk' hb'
    · rw [hF s hk] at hb
      exact hclash b (hsub s' hk' b hb').2 s hk hb
    · rw [hF s hk] at hb
      rw [hF s' hk'] at hb'
      exact h.disj s s' hne b hb hb'
  · intro s b hb
    by_cases hk : K s
    · exact ⟨(hsub s hk b hb).1, horg b (hsub s hk b hb).2⟩
    · rw [hF s hk] at hb
      exact ⟨Nat.lt_of_lt_of_le (h.rng s b hb).1 hs, (h.rng s b hb).2⟩
  · intro s b hb hbx
    by_cases hk : K s
    · exact hxd s hk b hb hbx
    · rw [hF s hk] at hb
      exact hclash b (hxs b hbx).2 s hk hb
  · intro s
    by_cases hk : K s
    · exact hslot s hk
    · rw [hσ s hk, hval s hk, hF s hk]
      exact (h.slot s).stable K hσ hv hval hF hoth hIp h.kip hs hG (hoth s hk) (fun s hs hlt => by simp only [val, if_pos hlt]; exact hfix s hs)
  · intro z hz
    exact ⟨by rw [hfix z.1 (h.fixed z hz).2]; exact (h.fixed z hz).1, (h.fixed z hz).2⟩

/-- One slot is changed, the frame and memory stay: 'X'' floats behind it. -/
theorem Sim.upd {c : Cx} {σ : St} {a : Act} {w : World} {X X' f' : List Nat} {F : Nat → List Nat} {G : Nat → Value} (h : Sim c σ a w X F G) (s : Nat) (av : AV)
    (hn : (f' ++ X').Nodup) (hsub : ∀ b ∈ f' ++ X', b ∈ X ∨ b ∈ F s)
    (hv : SlotV c (σ.set s av) (val c a G) w (fun r => if r = s then f' else F r) G (val c a G s) f' av) : Sim c (σ.set s av) a w X' (fun r => if r = s then f' else F r) G := by
  have hnd := List.nodup_append.1 hn
  refine h.multi (fun r => r = s) (fun r hr => St.set_other _ _ _ _ hr) (fun r hr => by subst hr; simp) (fun _ _ => rfl) (fun r hr => by simp [hr]) (fun _ _ _ _ => rfl) (fun _ _ _ _ _ => rfl) (Nat.le_refl _) rfl rfl rfl h.defers h.size (fun _ _ => rfl)
    (fun r hr => by simp [hr]; exact hnd.1) (fun r hr b hb => ?_) (fun r r' hr hr' hne => absurd (hr.trans hr'.symm) hne) hnd.2.1 (fun b hb => ?_) (fun r hr b hb hb' => ?_) (fun r hr => by subst hr; simpa using hv)
  · simp [hr] at hb
    have := hsub b (by simp [hb])
    rcases this with h1 | h1
    · exact ⟨(h.xrng b h1).1, .inl h1⟩
    · exact ⟨(h.rng s b h1).1, .inr (.inl ⟨s, rfl, h1⟩)⟩
  · have := hsub b (by simp [hb])
    rcases this with h1 | h1
    · exact ⟨(h.xrng b h1).1, .inl h1⟩
    · exact ⟨(h.rng s b h1).1, .inr (.inl ⟨s, rfl, h1⟩)⟩
  · simp [hr] at hb
    exact hnd.2.2 b hb b hb' rfl

theorem wf_wrap' (k : IntKind) (e : Int) : inR k (k.wrap e) := by
  unfold inR
  cases k <;> simp [Lit.wf, IntKind.wrap, IntKind.min, IntKind.max, IntKind.signed, IntKind.bits] <;> (try split) <;> omega

/-- What is asked of the tables. -/
structure EnvOK (c : Cx) : Prop where
  sg : ∀ n sg, c.E.sg n = some sg → Sound c.P n sg
  noIp : ∀ n sg, c.E.sg n = some sg → (∀ r ∈ sg.rs, match r with | .v t g => noIp g = true ∧ aliveT t g = true | .pb t g => noIp g = true ∧ aliveT t g = true) ∧ (∀ p ∈ sg.ps, match p with | .io _ g => noIp g = true | _ => True)

/-- An operand's value under what is known of it. -/
structure Opd (c : Cx) (σ : St) (a : Act) (w : World) (F : Nat → List Nat) (G : Nat → Value) (o : Operand) (av : AV) (s : Option Nat) (n : Nat) : Prop where
  sv : SlotV c σ (val c a G) w F G (a.eval o) (match s with | some s => F s | none => []) av
  at_ : ∀ s', s = some s' → av = (σ s').1 ∧ n = (σ s').2 ∧ a.eval o = val c a G s' ∧ s' < c.E.nt

theorem eval_tmp {c : Cx} {a : Act} {G : Nat → Value} {s : Nat} (h : s < c.E.nt) : a.eval (.tmp s) = val c a G s := by simp [Act.eval, val, h]

theorem cloOf_args {P : Program} {w : World} {J K : Nat → Prop} : ∀ (ps : List PK) (as : List Ty) (cf : HL as → Args ps), rd.cloOf ps = some ⟨as, cf⟩ → ∀ (x : HL as) (vs : List Value), Vals w J as x vs → ArgsOK P w J K ps (cf x) vs [] := by
  intro ps
  induction ps with
  | nil =>
    intro as cf h x vs hv
    simp only [rd.cloOf, Option.some.injEq, Sigma.mk.injEq] at h
    obtain ⟨rfl, h⟩ := h
    exact ⟨hv, rfl⟩
  | cons p ps ih =>
    intro as cf h x vs hv
    cases p with
    | val t esc =>
      cases esc with
      | true => simp [rd.cloOf] at h
      | false =>
        simp only [rd.cloOf] at h
        cases hc : rd.cloOf ps with
        | none => simp [hc] at h
        | some z =>
          obtain ⟨as', c'⟩ := z
          simp only [hc, Option.some.injEq, Sigma.mk.injEq] at h
          obtain ⟨rfl, h⟩ := h
          have h := eq_of_heq h
          subst h
          obtain ⟨d, cs, vs', rfl, h1, h2⟩ := hv
          exact ⟨d, cs, vs', rfl, h1, ih as' c' hc x.2 vs' h2⟩
    | _ => simp [rd.cloOf] at h

theorem pv_int {k : IntKind} {n : Int} (h : inR k n) : PV (.int k) n [.int k n] := fun _ => ⟨1, rfl, h, rfl⟩
theorem pv_bool {b : Bool} : PV .bool b [.bool b] := fun _ => ⟨1, rfl, rfl⟩
theorem pv_str {s : ByteArray} (h : s.size ≤ maxLen) : PV .str s [.string s] := fun _ => ⟨1, rfl, h, rfl⟩
theorem PV.TR {t : Ty} {x : El t} {cs : List Value} (h : PV t x cs) (w : World) (I : Bool → Nat → Prop) : TR w I .own t x cs [] := by
  obtain ⟨d, hd⟩ := h w
  exact TR_of_own hd

theorem constAV_ok {c : Cx} {σ : St} {vl : Nat → Value} {w : World} {F : Nat → List Nat} {G : Nat → Value} (t : Option Ty) (v : Value) : SlotV c σ vl w F G v [] (constAV t v) := by
  cases v with
  | int k n =>
    simp only [constAV]
    cases h : (Lit.int k n).wf
    · trivial
    · exact ⟨_, rfl, (pv_int h).TR _ _⟩
  | bool b => exact ⟨_, rfl, pv_bool.TR _ _⟩
  | string s =>
    simp only [constAV]
    cases h : decide (s.size ≤ maxLen)
    · trivial
    · exact ⟨_, rfl, (pv_str (of_decide_eq_true h)).TR _ _⟩
  | slice p l cap =>
    simp only [constAV]
    split <;> try trivial
    split
    · refine ⟨[.slice none 0 0], ?_, TR_of_own (d := 1) (.inl ⟨rfl, rfl, rfl⟩)⟩
      simp_all [mkV]
    · trivial
  | _ => trivial

theorem rd_run {c : Cx} (he : EnvOK c) {σ σ' : St} {a : Act} {w : World} {X : List Nat} {F : Nat → List Nat} {G : Nat → Value} (h : Sim c σ a w X F G) {t : Option Ty} {o : Operand} {k : AV → Option Nat → Nat → Mp} (hr : (rd c.E t o k).run σ = some σ') :
    ∃ av s n, Opd c σ a w F G o av s n ∧ (k av s n).run σ = some σ' := by
  cases o with
  | tmp s =>
    simp only [rd] at hr
    obtain ⟨hlt, hr⟩ := chk_run hr
    have hlt : s < c.E.nt := by simpa [Nat.blt_eq] using hlt
    refine ⟨_, some s, _, ⟨?_, ?_⟩, hr⟩
    · rw [eval_tmp (c := c) (G := G) hlt]; exact h.slot s
    · rintro s' hs; cases hs; exact ⟨rfl, rfl, eval_tmp hlt, hlt⟩
  | const v => exact ⟨_, none, 0, ⟨constAV_ok t v, by simp⟩, hr⟩
  | global g => simp [rd, Mp.run] at hr
  | func f =>
    simp only [rd] at hr
    split at hr
    · rename_i ps r q Ot Fn outF hsg
      split at hr
      · rename_i as cf hcl
        obtain ⟨hp, hr⟩ := chk_run hr
        refine ⟨_, none, 0, ⟨?_, by simp⟩, hr⟩
        show (∀ z ∈ [], _) ∧ _
        refine ⟨by simp, fun _ => ⟨hp, ?_⟩⟩
        obtain ⟨hcall, hs⟩ := he.sg _ _ hsg
        refine ⟨f, #[], rfl, hcall, fun w' _ _ vs x y hv hy => ?_⟩
        simp only [Option.map_eq_some_iff] at hy
        obtain ⟨o, ho, rfl⟩ := hy
        have := hs w' (fun b => b < w'.heap.size) (fun _ => False) (cf x) vs [] o (by simp) (fun b hb => ⟨hb, by simp⟩) (by simp) (by simp) (cloOf_args ps as cf hcl x vs hv) ho
        rw [Array.append_empty]
        refine this.mono ?_
        rintro e w'' ⟨v, rfl, ho⟩
        obtain ⟨⟨rv, fr, fio, rfl, h1, h2, h3, h4⟩, h5⟩ := ho
        obtain ⟨cs, g, vs', fp', rfl, rfl, h6, h7⟩ := h1
        obtain ⟨rfl, rfl⟩ := h7
        have hal := ((he.noIp _ _ hsg).1 (.v r q) (by simp)).2
        obtain ⟨rfl, hpv⟩ := TR_plain _ _ _ _ _ hp hal h6
        exact ⟨cs, rfl, hpv, h5⟩
      · simp [Mp.run] at hr
    · simp [Mp.run] at hr
end Net

/- Reading a value, taking one over. -/
namespace Net
open Go
set_option linter.unusedVariables false

/-- What was not changed since is as it was. -/
structure Mono (σ : St) (F : Nat → List Nat) (σ1 : St) (F1 : Nat → List Nat) : Prop where
  le : ∀ r, (σ r).2 ≤ (σ1 r).2
  eq : ∀ r, (σ1 r).2 = (σ r).2 → σ1 r = σ r ∧ F1 r = F r
theorem Mono.refl (σ : St) (F : Nat → List Nat) : Mono σ F σ F := ⟨fun _ => Nat.le_refl _, fun _ _ => ⟨rfl, rfl⟩⟩
theorem Mono.trans {σ σ1 σ2 : St} {F F1 F2 : Nat → List Nat} (h : Mono σ F σ1 F1) (k : Mono σ1 F1 σ2 F2) : Mono σ F σ2 F2 :=
  ⟨fun r => Nat.le_trans (h.le r) (k.le r), fun r hr => by
    have h1 := h.le r
    have h2 := k.le r
    obtain ⟨e1, e2⟩ := k.eq r (by omega)
    obtain ⟨e3, e4⟩ := h.eq r (by omega)
    exact ⟨e1.trans e3, e2.trans e4⟩⟩
theorem Mono.set (σ : St) (F : Nat → List Nat) (s : Nat) (av : AV) (f : List Nat) : Mono σ F (σ.set s av) (fun r => if r = s then f else F r) :=
  ⟨fun r => by
    by_cases hr : r = s
    · subst hr; simp
    · rw [St.set_other _ _ _ _ hr]; exact Nat.le_refl _, fun r hr => by
    by_cases hrs : r = s
    · subst hrs; simp at hr
    · rw [St.set_other _ _ _ _ hrs]; simp [hrs]⟩
theorem SlotV.mono {c : Cx} {σ σ1 : St} {vl : Nat → Value} {w : World} {F F1 : Nat → List Nat} {G : Nat → Value} {v : Value} {f : List Nat} {av : AV} (hk : ∀ b, c.K b → c.Ip b) (hm : Mono σ F σ1 F1) (h : SlotV c σ vl w F G v f av) : SlotV c σ1 vl w F1 G v f av :=
  h.stable (fun r => (σ r).2 < (σ1 r).2) (fun r hr => (hm.eq r (by have := hm.le r; omega)).1) (fun r hr => hr) (fun _ _ => rfl) (fun r hr => (hm.eq r (by have := hm.le r; omega)).2) (fun _ _ _ _ => rfl) (fun _ _ => rfl) hk (Nat.le_refl _) (fun _ _ _ _ _ => rfl) (fun _ _ => rfl) (fun _ _ _ => rfl)

theorem Sim.I_ip {c : Cx} {σ : St} {a : Act} {w : World} {X : List Nat} {F : Nat → List Nat} {G : Nat → Value} (h : Sim c σ a w X F G) : ∀ k b, c.I k b → c.Ip b := by
  intro k b hb
  cases k with
  | true => exact h.kip b hb
  | false => exact hb

theorem viewK_run {c : Cx} (he : EnvOK c) {σ σ' : St} {a : Act} {w : World} {X : List Nat} {F : Nat → List Nat} {G : Nat → Value} (h : Sim c σ a w X F G) {t : Option Ty} {o : Operand} {k : (t : Ty) → El t → VS → Mp} (hr : (viewK c.E t o k).run σ = some σ') :
    ∃ t x q, (k t x q).run σ = some σ' ∧ srcPast σ q ∧ srcLive σ q ∧ ∃ d cs, a.eval o = mkV t cs ∧ RI w (srcJ c F q) d t x cs := by
  obtain ⟨av, s, n, ho, hr⟩ := rd_run he h hr
  have hsv := ho.sv
  cases av with
  | own u x g =>
    simp only at hr
    obtain ⟨hal, hr⟩ := chk_run hr
    obtain ⟨cs, h1, h2⟩ := hsv
    cases hp : plainT u with
    | true =>
      simp only [hp] at hr
      obtain ⟨d, hd⟩ := (TR_plain _ _ _ _ _ hp hal h2).2.RI w (srcJ c F .ip)
      exact ⟨u, x, .ip, hr, trivial, trivial, d, cs, h1, hd⟩
    | false =>
      cases s with
      | none =>
        simp only [hp] at hr
        obtain ⟨d, hd⟩ := TR_view (J := c.Ip) (fun k b => h.I_ip k b) _ _ _ _ _ hal (by simp) h2
        exact ⟨u, x, .ip, hr, trivial, trivial, d, cs, h1, hd⟩
      | some s =>
        simp only [hp] at hr
        obtain ⟨_, hn, _, _⟩ := ho.at_ s rfl
        obtain ⟨d, hd⟩ := TR_view (J := srcJ c F (.slot s n)) (fun k b hb => .inl (h.I_ip k b hb)) _ _ _ _ _ hal (fun b hb => .inr hb) h2
        exact ⟨u, x, .slot s n, hr, Nat.le_of_eq hn, hn, d, cs, h1, hd⟩
  | vw u x q =>
    obtain ⟨hp, hl⟩ := hsv
    cases q with
    | ip => exact ⟨u, x, .ip, hr, trivial, trivial, hl trivial⟩
    | k => exact ⟨u, x, .k, hr, trivial, trivial, hl trivial⟩
    | slot r m =>
      simp only [Mp.run] at hr
      obtain ⟨hm, hr⟩ := chk_run hr
      have hm := Nat.eq_of_beq_eq_true hm
      exact ⟨u, x, .slot r m, hr, hp, hm, hl hm⟩
  | al u x r m up ex =>
    simp only [Mp.run] at hr
    obtain ⟨hm, hr⟩ := chk_run hr
    have hm := Nat.eq_of_beq_eq_true hm
    obtain ⟨hp, hl⟩ := hsv
    obtain ⟨cs, tr, xr, gr, A, rc, fr, h1, h2, h3, h4⟩ := hl hm
    obtain ⟨d, hd⟩ := h3.view
    exact ⟨u, x, .slot r m, hr, hp, hm, d, cs, h1, hd⟩
  | _ => simp [Mp.run] at hr

theorem intK_run {c : Cx} (he : EnvOK c) {σ σ' : St} {a : Act} {w : World} {X : List Nat} {F : Nat → List Nat} {G : Nat → Value} (h : Sim c σ a w X F G) {o : Operand} {k : IntKind → Int → Mp} (hr : (intK c.E o k).run σ = some σ') :
    ∃ q n, (k q n).run σ = some σ' ∧ a.eval o = .int q n ∧ inR q n := by
  obtain ⟨t, x, q, hr, _, _, d, cs, h1, h2⟩ := viewK_run he h hr
  cases t with
  | int q' =>
    cases d with
    | zero => exact h2.elim
    | succ d => obtain ⟨rfl, h3⟩ := h2; exact ⟨q', x, hr, h1, h3⟩
  | _ => simp [Mp.run] at hr
theorem boolK_run {c : Cx} (he : EnvOK c) {σ σ' : St} {a : Act} {w : World} {X : List Nat} {F : Nat → List Nat} {G : Nat → Value} (h : Sim c σ a w X F G) {o : Operand} {k : Bool → Mp} (hr : (boolK c.E o k).run σ = some σ') :
    ∃ b, (k b).run σ = some σ' ∧ a.eval o = .bool b := by
  obtain ⟨t, x, q, hr, _, _, d, cs, h1, h2⟩ := viewK_run he h hr
  cases t with
  | bool =>
    cases d with
    | zero => exact h2.elim
    | succ d => simp only [RI] at h2; subst h2; exact ⟨x, hr, h1⟩
  | _ => simp [Mp.run] at hr

theorem tagAt_isImm_take {g : Tag} {st : List Step} : (∃ q, tagAt g st = .imm q) ∨ ∀ q, tagAt g st ≠ .imm q := by
  cases h : tagAt g st with
  | imm q => exact .inl ⟨q, rfl⟩
  | _ => exact .inr (by simp)

theorem takeB_run {c : Cx} {σ σ' : St} {a : Act} {w : World} {X : List Nat} {F : Nat → List Nat} {G : Nat → Value} (h : Sim c σ a w X F G) {av : AV} {s : Option Nat} {n : Nat} {v : Value} {k : (t : Ty) → El t → Tag → Mp}
    (hv : SlotV c σ (val c a G) w F G v (match s with | some s => F s | none => []) av) (hat : ∀ s', s = some s' → av = (σ s').1 ∧ n = (σ s').2) (hr : (takeB av s n k).run σ = some σ') :
    ∃ t x g σ1 F1 f cs, (k t x g).run σ1 = some σ' ∧ Sim c σ1 a w (f ++ X) F1 G ∧ Mono σ F σ1 F1 ∧ v = mkV t cs ∧ TR w c.I g t x cs f ∧ aliveT t g = true := by
  cases av with
  | own u x g =>
    simp only [takeB] at hr
    obtain ⟨hal, hr⟩ := chk_run hr
    obtain ⟨cs, h1, h2⟩ := hv
    cases hp : plainT u with
    | true =>
      simp only [hp] at hr
      obtain ⟨_, hpv⟩ := TR_plain _ _ _ _ _ hp hal h2
      exact ⟨u, x, .own, σ, F, [], cs, hr, h, Mono.refl _ _, h1, hpv.TR _ _, by cases u <;> simp [aliveT]⟩
    | false =>
      cases s with
      | none =>
        simp only [hp] at hr
        exact ⟨u, x, g, σ, F, [], cs, hr, h, Mono.refl _ _, h1, h2, hal⟩
      | some s =>
        simp only [hp, Mp.run] at hr
        refine ⟨u, x, g, _, _, F s, cs, hr, h.upd s .dead (f' := []) (X' := F s ++ X) ?_ ?_ trivial, Mono.set _ _ _ _ _, h1, h2, hal⟩
        · simp only [List.nil_append]
          exact List.nodup_append.2 ⟨h.nodup s, h.xnodup, fun b hb b' hb' => by rintro rfl; exact h.xdisj s b hb hb'⟩
        · intro b hb
          simp only [List.nil_append, List.mem_append] at hb
          exact hb.symm
  | vw u x q =>
    obtain ⟨hp, hl⟩ := hv
    have key : ∀ q', (q' = .ip ∨ q' = .k) → q = q' → ∃ d cs, v = mkV u cs ∧ RI w (srcJ c F q') d u x cs := by
      rintro q' hq rfl
      exact hl (by rcases hq with rfl | rfl <;> trivial)
    cases q with
    | slot r m => simp [takeB, Mp.run] at hr
    | ip =>
      obtain ⟨d, cs, h1, h2⟩ := key .ip (.inl rfl) rfl
      simp only [takeB] at hr
      cases hpl : plainT u with
      | true =>
        simp only [hpl] at hr
        exact ⟨u, x, .own, σ, F, [], cs, hr, h, Mono.refl _ _, h1, (PV.of_RI hpl h2).TR _ _, by cases u <;> simp [aliveT]⟩
      | false =>
        simp only [hpl] at hr
        exact ⟨u, x, .imm false, σ, F, [], cs, hr, h, Mono.refl _ _, h1, TR_imm (I := c.I) (q := false) h2, by cases u <;> simp [aliveT]⟩
    | k =>
      obtain ⟨d, cs, h1, h2⟩ := key .k (.inr rfl) rfl
      simp only [takeB] at hr
      cases hpl : plainT u with
      | true =>
        simp only [hpl] at hr
        exact ⟨u, x, .own, σ, F, [], cs, hr, h, Mono.refl _ _, h1, (PV.of_RI hpl h2).TR _ _, by cases u <;> simp [aliveT]⟩
      | false =>
        simp only [hpl] at hr
        exact ⟨u, x, .imm true, σ, F, [], cs, hr, h, Mono.refl _ _, h1, TR_imm (I := c.I) (q := true) h2, by cases u <;> simp [aliveT]⟩
  | al u x r m up ex =>
    simp only [takeB, Mp.run] at hr
    obtain ⟨hm, hr⟩ := chk_run hr
    have hm := Nat.eq_of_beq_eq_true hm
    obtain ⟨hp, hl⟩ := hv
    obtain ⟨cs, tr, xr, gr, A, rc, fr, h1, h2, h3, h4⟩ := hl hm
    have himm : ∀ q, tagAt gr (stepsOf up) = .imm q → ∃ d, RI w (c.I q) d u x cs := h3.imm
    have hnodfr : ∀ fa rest : List Nat, (fa ++ rest).Nodup → (∀ b ∈ fa ++ rest, b ∈ fr) → ∀ f' : List Nat, f'.Nodup → (∀ b ∈ f', b ∈ F r) → (∀ b ∈ f', b ∉ fa) → (f' ++ (fa ++ X)).Nodup ∧ ∀ b ∈ f' ++ (fa ++ X), b ∈ X ∨ b ∈ F r := by
      intro fa rest hn hs f' hfn hfs hfd
      have hfa : ∀ b ∈ fa, b ∈ F r := fun b hb => Root_sub h2 b (hs b (by simp [hb]))
      refine ⟨List.nodup_append.2 ⟨hfn, List.nodup_append.2 ⟨(List.nodup_append.1 hn).1, h.xnodup, fun b hb b' hb' => by rintro rfl; exact h.xdisj r b (hfa b hb) hb'⟩, ?_⟩, ?_⟩
      · intro b hb b' hb'
        rintro rfl
        rcases List.mem_append.1 hb' with hb' | hb'
        · exact hfd b hb hb'
        · exact h.xdisj r b (hfs b hb) hb'
      · intro b hb
        simp only [List.mem_append] at hb
        rcases hb with hb | hb | hb
        · exact .inr (hfs b hb)
        · exact .inr (hfa b hb)
        · exact .inl hb
    generalize hav : (σ r).1 = avr at hr h2
    obtain ⟨Fr, hFr⟩ : ∃ Fr, Fr = F r := ⟨_, rfl⟩
    rw [← hFr] at h2
    cases h2 with
    | @own tr xr gr rc fr k1 k2 =>
      simp only at hr
      generalize htg : tagAt gr (stepsOf up) = tg at hr
      have fin : ∀ (hr2 : (chk (aliveT u tg) (match stepsOf up, killT tr gr (stepsOf up) with
          | [], _ => .set r .dead (k u x tg)
          | _, some gr' => .set r (.own tr xr gr') (k u x tg)
          | _, none => .fail)).run σ = some σ'),
          ∃ t x g σ1 F1 f cs, (k t x g).run σ1 = some σ' ∧ Sim c σ1 a w (f ++ X) F1 G ∧ Mono σ F σ1 F1 ∧ v = mkV t cs ∧ TR w c.I g t x cs f ∧ aliveT t g = true := by
        intro hr2
        obtain ⟨hal, hr2⟩ := chk_run hr2
        cases hst : stepsOf up with
        | nil =>
          simp only [hst, Mp.run] at hr2
          have hk : killT tr gr (stepsOf up) = some .dead := by rw [hst]; cases tr <;> rfl
          obtain ⟨fa, rest, h5, h6, h7, h8⟩ := h3.take .dead (by rw [htg]; exact hal) hk
          obtain ⟨n1, n2⟩ := hnodfr fa rest h5 h6 [] (by simp) (by simp) (by simp)
          exact ⟨u, x, tg, _, _, fa, cs, hr2, h.upd r .dead (f' := []) (X' := fa ++ X) n1 n2 trivial, Mono.set _ _ _ _ _, h1, htg ▸ h7, hal⟩
        | cons e l =>
          simp only [hst] at hr2
          cases hk : killT tr gr (e :: l) with
          | none => simp [hk, Mp.run] at hr2
          | some gr' =>
            simp only [hk, Mp.run] at hr2
            obtain ⟨fa, rest, h5, h6, h7, h8⟩ := h3.take gr' (by rw [htg]; exact hal) (by rw [hst]; exact hk)
            have h5' := List.nodup_append.1 h5
            obtain ⟨n1, n2⟩ := hnodfr fa rest h5 h6 rest h5'.2.1 (fun b hb => hFr ▸ h6 b (by simp [hb])) (fun b hb hb' => h5'.2.2 b hb' b hb rfl)
            exact ⟨u, x, tg, _, _, fa, cs, hr2, h.upd r (.own tr xr gr') (f' := rest) (X' := fa ++ X) n1 n2 ⟨rc, k1, h8⟩, Mono.set _ _ _ _ _, h1, htg ▸ h7, hal⟩
      cases tg with
      | imm q =>
        simp only at hr
        obtain ⟨d, hd⟩ := himm q htg
        exact ⟨u, x, .imm q, σ, F, [], cs, hr, h, Mono.refl _ _, h1, TR_imm hd, by cases u <;> simp [aliveT]⟩
      | own => exact fin hr
      | dead => exact fin hr
      | st gs => exact fin hr
      | os g' => exact fin hr
    | @box tr xr gr rc fr b k1 k2 k3 =>
      simp only at hr
      generalize htg : tagAt gr (stepsOf up) = tg at hr
      have fin : ∀ (hr2 : (chk (aliveT u tg) (match killT tr gr (stepsOf up) with
          | some gr' => .set r (.box tr xr gr') (k u x tg)
          | none => .fail)).run σ = some σ'),
          ∃ t x g σ1 F1 f cs, (k t x g).run σ1 = some σ' ∧ Sim c σ1 a w (f ++ X) F1 G ∧ Mono σ F σ1 F1 ∧ v = mkV t cs ∧ TR w c.I g t x cs f ∧ aliveT t g = true := by
        intro hr2
        obtain ⟨hal, hr2⟩ := chk_run hr2
        cases hk : killT tr gr (stepsOf up) with
        | none => simp [hk, Mp.run] at hr2
        | some gr' =>
          simp only [hk, Mp.run] at hr2
          obtain ⟨fa, rest, h5, h6, h7, h8⟩ := h3.take gr' (by rw [htg]; exact hal) hk
          have h5' := List.nodup_append.1 h5
          have hb0 : b ∉ fr := by have := h.nodup r; rw [← hFr] at this; exact (List.nodup_cons.1 this).1
          obtain ⟨n1, n2⟩ := hnodfr fa rest h5 h6 (b :: rest) (List.nodup_cons.2 ⟨fun hb => hb0 (h6 b (by simp [hb])), h5'.2.1⟩) (fun q hq => by rw [← hFr]; rcases List.mem_cons.1 hq with rfl | hq; simp; exact List.mem_cons_of_mem _ (h6 q (by simp [hq]))) (fun q hq hq' => by
            rcases List.mem_cons.1 hq with rfl | hq
            · exact hb0 (h6 q (by simp [hq']))
            · exact h5'.2.2 q hq' q hq rfl)
          exact ⟨u, x, tg, _, _, fa, cs, hr2, h.upd r (.box tr xr gr') (f' := b :: rest) (X' := fa ++ X) n1 n2 ⟨b, rc, rest, k1, k2, h8, rfl⟩, Mono.set _ _ _ _ _, h1, htg ▸ h7, hal⟩
      cases tg with
      | imm q =>
        simp only at hr
        obtain ⟨d, hd⟩ := himm q htg
        exact ⟨u, x, .imm q, σ, F, [], cs, hr, h, Mono.refl _ _, h1, TR_imm hd, by cases u <;> simp [aliveT]⟩
      | own => exact fin hr
      | dead => exact fin hr
      | st gs => exact fin hr
      | os g' => exact fin hr
  | _ => simp [takeB, Mp.run] at hr

theorem takeK_run {c : Cx} (he : EnvOK c) {σ σ' : St} {a : Act} {w : World} {X : List Nat} {F : Nat → List Nat} {G : Nat → Value} (h : Sim c σ a w X F G) {t : Option Ty} {o : Operand} {k : (t : Ty) → El t → Tag → Mp} (hr : (takeK c.E t o k).run σ = some σ') :
    ∃ t x g σ1 F1 f cs, (k t x g).run σ1 = some σ' ∧ Sim c σ1 a w (f ++ X) F1 G ∧ Mono σ F σ1 F1 ∧ a.eval o = mkV t cs ∧ TR w c.I g t x cs f ∧ aliveT t g = true := by
  obtain ⟨av, s, n, ho, hr⟩ := rd_run he h hr
  exact takeB_run h ho.sv (fun s' hs => ⟨(ho.at_ s' hs).1, (ho.at_ s' hs).2.1⟩) hr
end Net
