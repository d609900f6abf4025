/- A walk by plain functions, part 8: that what a region of operations does is what a plain function says, for any program whose types are at hand. -/
import Derived.Test.YtoildogibnampaaGreatBaseF
import Derived.Test.YtoildogibnampaaGreatBaseG

/- Plain functions: loops, in general. -/
namespace Net
open Go
set_option linter.unusedVariables false

theorem W_id {x : Int} (h1 : -9223372036854775808 ≤ x) (h2 : x ≤ 9223372036854775807) : W x = x := by
  simp only [W, IntKind.wrap, IntKind.signed, IntKind.bits]
  simp
  omega
theorem rdI_nat {α : Type} (xs : List α) (i : Nat) : rdI xs (i : Int) = xs[i]? := by simp [rdI]
theorem rdI_zero {α : Type} (xs : List α) : rdI xs 0 = xs[0]? := rdI_nat xs 0
theorem set_get {α : Type} {xs : List α} {i : Nat} {x v : α} (h : xs[i]? = some x) : (xs.set i v)[i]? = some v := by
  have := (List.getElem?_eq_some_iff.1 h).1
  simp [this]
theorem rdI_at {α : Type} {xs : List α} {i : Nat} {x : α} (h : xs[i]? = some x) : rdI xs (i : Int) = some x := by rw [rdI_nat, h]
theorem rdI_set {α : Type} {xs : List α} {i : Nat} {x : α} (h : xs[i]? = some x) (v : α) : rdI (xs.set i v) (i : Int) = some v := by rw [rdI_nat, set_get h]
theorem lt_of_get {α : Type} {xs : List α} {i : Nat} {x : α} (h : xs[i]? = some x) : i < xs.length := (List.getElem?_eq_some_iff.1 h).1

/-- Rounds in order, till one leaves. -/
theorem iter_run {S X : Type} {f : S → Option (S ⊕ X)} {st : Nat → S} {e : X} : ∀ (n : Nat), (∀ i, i < n → f (st i) = some (.inl (st (i + 1)))) → f (st n) = some (.inr e) → iter f (st 0) = some e := by
  intro n
  induction n generalizing st with
  | zero => intro _ h; rw [iter_eq, h]
  | succ n ih =>
    intro h1 h2
    rw [iter_eq, h1 0 (Nat.succ_pos n)]
    exact ih (st := fun i => st (i + 1)) (fun i hi => h1 (i + 1) (by omega)) h2
/-- Rounds that keep an invariant, till one leaves. -/
theorem iter_inv {S X : Type} {f : S → Option (S ⊕ X)} {e : X → Prop} (I : Nat → S → Prop) : ∀ (n : Nat) (s : S), I 0 s → (∀ i s, i < n → I i s → (∃ s', f s = some (.inl s') ∧ I (i + 1) s') ∨ ∃ x, f s = some (.inr x) ∧ e x) → (∀ s, I n s → ∃ x, f s = some (.inr x) ∧ e x) → ∃ x, iter f s = some x ∧ e x := by
  intro n
  induction n generalizing I with
  | zero =>
    intro s h0 _ h2
    obtain ⟨x, hx, he⟩ := h2 s h0
    exact ⟨x, by rw [iter_eq, hx], he⟩
  | succ n ih =>
    intro s h0 h1 h2
    rcases h1 0 s (Nat.succ_pos n) h0 with ⟨s', hs, hi⟩ | ⟨x, hx, he⟩
    · obtain ⟨x, hx, he⟩ := ih (fun i => I (i + 1)) s' hi (fun i s hi hI => h1 (i + 1) s (by omega) hI) h2
      exact ⟨x, by rw [iter_eq, hs]; exact hx, he⟩
    · exact ⟨x, by rw [iter_eq, hx], he⟩

/-- A bound far below what a number of 64 bits holds. -/
abbrev BB : Int := 4611686018427387904
/-- How long the lists are that the laws speak of. -/
abbrev NN : Int := 1048576
/-- The same, with a little that was added. -/
abbrev NM : Int := 1048592
def okL {α : Type} (n : Int) (ok : α → Prop) (a : List α) : Prop := (a.length : Int) ≤ n ∧ ∀ x ∈ a, ok x
theorem okL_mono {α : Type} {n m : Int} {p q : α → Prop} (hnm : n ≤ m) (h : ∀ x, p x → q x) {a : List α} (ha : okL n p a) : okL m q a := ⟨Int.le_trans ha.1 hnm, fun x hx => h x (ha.2 x hx)⟩
theorem len_cons1 {α : Type} (pre : List α) (x : α) : ((pre ++ [x]).length : Int) = (pre.length : Int) + 1 := by simp
theorem dec_neg {m : Int} (h : 0 ≤ m) : decide (m < 0) = false := by simp; omega

/- numbers laid and looked for -/
/-- What is marked from k on holds the marks from k on. -/
def MH {α : Type} (mk : α → Int → Option (α × Int)) (hd : α → Int → Option Int) (c : α → Nat) (ok : α → Prop) : Prop :=
  ∀ a k, ok a → 0 ≤ k → k + c a ≤ BB → ∃ a', mk a k = some (a', k + c a) ∧ hd a' k = some (k + c a)

def sumC {α : Type} (c : α → Nat) : List α → Nat
  | [] => 0
  | x :: xs => c x + sumC c xs

theorem mh_list {α : Type} {f : (List α × Int × Int × Unit) → Option ((List α × Int × Int × Unit) ⊕ ((List α × Int × Unit) ⊕ (List α × Int)))} {g : List α → (Int × Int × Unit) → Option ((Int × Int × Unit) ⊕ ((Int × Unit) ⊕ Int))} (c : α → Nat) (ok : α → Prop) (Hd : α → Int → Int → Prop)
    (hf : ∀ (xs : List α) (k : Int) (i : Nat) (x : α), xs[i]? = some x → ok x → 0 ≤ k → k + c x ≤ BB → (i : Int) + 1 ≤ BB → ∃ x', f (xs, k, (i : Int), ()) = some (.inl (xs.set i x', k + c x, (i : Int) + 1, ())) ∧ Hd x' k (k + c x))
    (hf0 : ∀ (xs : List α) (k : Int), f (xs, k, (xs.length : Int), ()) = some (.inr (.inl (xs, k, ()))))
    (hg : ∀ (ys : List α) (i : Nat) (y : α) (k m : Int), ys[i]? = some y → Hd y k m → (i : Int) + 1 ≤ BB → g ys (k, (i : Int), ()) = some (.inl (m, (i : Int) + 1, ())))
    (hg0 : ∀ (ys : List α) (k : Int), g ys (k, (ys.length : Int), ()) = some (.inr (.inl (k, ())))) :
    MH (fun a k => Option.bind (iter f (a, k, 0, ())) (sumE (fun e => some (e.1, e.2.1)) some)) (fun a k => Option.bind (iter (g a) (k, 0, ())) (sumE (fun e => some e.1) some)) (sumC c) (okL NM ok) := by
  intro a k ⟨hl, hok⟩ hk hc
  have hl : (a.length : Int) ≤ BB := by simp only [NM] at hl; simp only [BB]; omega
  -- the marks, one element after the other
  have marks : ∀ (todo done_ : List α) (k : Int), (∀ x ∈ todo, ok x) → ((done_ ++ todo).length : Int) ≤ BB → 0 ≤ k → k + sumC c todo ≤ BB →
      ∃ ys, ys.length = todo.length ∧ iter f (done_ ++ todo, k, (done_.length : Int), ()) = some (.inl (done_ ++ ys, k + sumC c todo, ())) ∧
        ∀ (pre : List α), pre.length = done_.length → iter (g (pre ++ ys)) (k, (pre.length : Int), ()) = some (.inl (k + sumC c todo, ())) := by
    intro todo
    induction todo with
    | nil =>
      intro done_ k _ _ _ _
      refine ⟨[], rfl, ?_, fun pre _ => ?_⟩
      · rw [iter_eq]
        have := hf0 (done_ ++ []) k
        rw [List.append_nil] at this ⊢
        rw [this]
        simp [sumC]
      · rw [iter_eq]
        have := hg0 (pre ++ []) k
        rw [List.append_nil] at this ⊢
        rw [this]
        simp [sumC]
    | cons x todo ih =>
      intro done_ k hok hlen hk hc
      simp only [sumC] at hc
      have hx : (done_ ++ x :: todo)[done_.length]? = some x := by simp
      have hi : ((done_.length : Nat) : Int) + 1 ≤ BB := by
        simp only [List.length_append, List.length_cons] at hlen
        omega
      obtain ⟨x', h1, h2⟩ := hf (done_ ++ x :: todo) k done_.length x hx (hok x (by simp)) hk (by omega) hi
      have hset : (done_ ++ x :: todo).set done_.length x' = (done_ ++ [x']) ++ todo := by simp
      obtain ⟨ys, h3, h4, h5⟩ := ih (done_ ++ [x']) (k + c x) (fun z hz => hok z (by simp [hz])) (by simp only [List.length_append, List.length_cons, List.length_nil] at hlen ⊢; omega) (by omega) (by omega)
      refine ⟨x' :: ys, by simp [h3], ?_, ?_⟩
      · rw [iter_eq, h1, hset]
        simp only [List.length_append, List.length_cons, List.length_nil, Int.natCast_add] at h4
        simp only [sumC]
        have e : k + ((c x + sumC c todo : Nat) : Int) = k + (c x : Int) + (sumC c todo : Int) := by omega
        rw [e]
        simpa using h4
      · intro pre hp
        have hy : (pre ++ x' :: ys)[pre.length]? = some x' := by simp
        rw [iter_eq, hg _ pre.length x' k _ hy h2 (by rw [hp]; exact hi)]
        have := h5 (pre ++ [x']) (by simp [hp])
        simp only [List.length_append, List.length_cons, List.length_nil, Int.natCast_add] at this
        simp only [sumC]
        have e : k + ((c x + sumC c todo : Nat) : Int) = k + (c x : Int) + (sumC c todo : Int) := by omega
        rw [e]
        simpa using this
  obtain ⟨ys, h1, h2, h3⟩ := marks a [] k hok (by simpa using hl) hk hc
  refine ⟨ys, ?_, ?_⟩
  · simp only [List.nil_append, List.length_nil] at h2
    show Option.bind (iter f (a, k, ((0 : Nat) : Int), ())) _ = _
    rw [h2]
    rfl
  · have := h3 [] rfl
    simp only [List.nil_append, List.length_nil] at this
    show Option.bind (iter (g ys) (k, ((0 : Nat) : Int), ())) _ = _
    rw [this]
    rfl

theorem sumC_le {α : Type} {c : α → Nat} {m : Nat} : ∀ (a : List α), (∀ x ∈ a, c x ≤ m) → sumC c a ≤ a.length * m
  | [], _ => by simp [sumC]
  | x :: a, h => by
    have := sumC_le a (fun y hy => h y (by simp [hy]))
    have := h x (by simp)
    simp only [sumC, List.length_cons, Nat.add_mul, Nat.one_mul]
    omega

/- copies, element by element -/
def TO {α : Type} (F : α → Option α) (ok : α → Prop) : Prop := ∀ a, ok a → F a = some a
def EQ {α : Type} [DecidableEq α] (F : α → α → Option Bool) (ok : α → Prop) : Prop := ∀ a b, ok a → F a b = some (decide (a = b))
theorem to_gen {α : Type} {z : α} {f : List α → (List α × Int × Unit) → Option ((List α × Int × Unit) ⊕ ((List α × Unit) ⊕ List α))} {ok : α → Prop}
    (hf : ∀ (a out : List α) (i : Nat) (x y : α), a[i]? = some x → out[i]? = some y → ok x → (i : Int) + 1 ≤ BB → f a (out, (i : Int), ()) = some (.inl (out.set i x, (i : Int) + 1, ())))
    (hf0 : ∀ (a out : List α), f a (out, (a.length : Int), ()) = some (.inr (.inl (out, ())))) :
    TO (fun a => Option.bind (mkE z (a.length : Int)) fun m1 => Option.bind (iter (f a) (m1, 0, ())) (sumE (fun e => some e.1) some)) (okL NM ok) := by
  intro a ⟨hl, hok⟩
  simp only [NM] at hl
  dsimp only
  have hm : mkE z (a.length : Int) = some (List.replicate a.length z) := by
    unfold mkE
    rw [if_pos ⟨by omega, by simp only [room]; omega⟩]
    simp
  rw [hm, Option.bind_some]
  have h1 := iter_run (f := f a) (st := fun i => (a.take i ++ List.replicate (a.length - i) z, (i : Int), ())) (e := .inl (a, ())) a.length (fun i hi => by
    have hx : a[i]? = some a[i] := List.getElem?_eq_getElem hi
    have hy : (a.take i ++ List.replicate (a.length - i) z)[i]? = some z := by
      have hli : (a.take i).length = i := by simp; omega
      rw [List.getElem?_append_right (by omega), hli, Nat.sub_self, List.getElem?_replicate, if_pos (by omega)]
    rw [hf a _ i a[i] z hx hy (hok _ (List.getElem_mem hi)) (by simp only [BB]; omega)]
    have e : (a.take i ++ List.replicate (a.length - i) z).set i a[i] = a.take (i + 1) ++ List.replicate (a.length - (i + 1)) z := by
      have hr : a.length - i = (a.length - (i + 1)) + 1 := by omega
      have hli : (a.take i).length = i := by simp; omega
      have h2 : (a.take i ++ List.replicate (a.length - i) z).set ((a.take i).length + 0) a[i] = a.take i ++ (List.replicate (a.length - i) z).set 0 a[i] := List.set_append_right _ _ (by omega) |>.trans (by simp)
      rw [hli, Nat.add_zero] at h2
      rw [h2, hr, List.replicate_succ, List.set_cons_zero, List.take_add_one, hx, List.append_assoc]
      rfl
    rw [e]
    rfl) (by
    have : (a.take a.length ++ List.replicate (a.length - a.length) z) = a := by simp
    simp only [this]
    exact hf0 a a)
  simp only [List.take_zero, List.nil_append, Nat.sub_zero] at h1
  show Option.bind (iter (f a) (List.replicate a.length z, ((0 : Nat) : Int), ())) _ = _
  rw [h1]
  rfl

/- equality, element by element -/
theorem eq_gen {α : Type} [DecidableEq α] {f : List α → List α → (Int × Unit) → Option ((Int × Unit) ⊕ (Unit ⊕ Bool))} {ok : α → Prop}
    (hf : ∀ (a b : List α) (i : Nat) (x y : α), a[i]? = some x → b[i]? = some y → ok x → (i : Int) + 1 ≤ BB → f a b ((i : Int), ()) = some (if x = y then .inl ((i : Int) + 1, ()) else .inr (.inr false)))
    (hf0 : ∀ (a b : List α), f a b ((a.length : Int), ()) = some (.inr (.inl ()))) :
    EQ (fun a b => cond (!((a.length : Int) == (b.length : Int))) (some false) (Option.bind (iter (f a b) (0, ())) (sumE (fun _ => some true) some))) (okL NM ok) := by
  intro a b ⟨hl, hok⟩
  simp only [NM] at hl
  dsimp only
  by_cases hlen : a.length = b.length
  · have e : ((a.length : Int) == (b.length : Int)) = true := by simp [hlen]
    rw [e, Bool.not_true, cond_false]
    have key : ∀ (pre : List α) (s t : List α), a = pre ++ s → b = pre ++ t → s.length = t.length → iter (f a b) ((pre.length : Int), ()) = some (if s = t then .inl () else .inr false) := by
      intro pre s
      induction s generalizing pre with
      | nil =>
        intro t ha hb ht
        have : t = [] := List.eq_nil_of_length_eq_zero ht.symm
        subst this
        rw [iter_eq]
        have h0 := hf0 a b
        have : a.length = pre.length := by rw [ha]; simp
        rw [this] at h0
        rw [h0]
        simp
      | cons x s ih =>
        intro t ha hb ht
        match t, ht with
        | y :: t, ht =>
          have hx : a[pre.length]? = some x := by rw [ha]; simp
          have hy : b[pre.length]? = some y := by rw [hb]; simp
          have hle : pre.length < a.length := lt_of_get hx
          rw [iter_eq, hf a b pre.length x y hx hy (hok x (by rw [ha]; simp)) (by simp only [BB]; omega)]
          by_cases hxy : x = y
          · subst hxy
            have := ih (pre ++ [x]) t (by rw [ha]; simp) (by rw [hb]; simp) (by simpa using ht)
            rw [len_cons1] at this
            simp only [if_true, this]
            simp
          · simp [hxy]
    have := key [] a b rfl rfl hlen
    show Option.bind (iter (f a b) (((0 : Nat) : Int), ())) _ = _
    simp only [List.length_nil] at this
    rw [this]
    by_cases hab : a = b
    · simp [hab, sumE]
    · simp [hab, sumE]
  · have e : ((a.length : Int) == (b.length : Int)) = false := by
      simp; omega
    rw [e, Bool.not_false, cond_true]
    have : a ≠ b := by rintro rfl; exact hlen rfl
    simp [this]

theorem eqI {x y : Int} {q : Prop} [Decidable q] {r : Option Bool} (h : r = some (decide q)) : cond (!(x == y)) (some false) r = some (decide (x = y ∧ q)) := by
  subst h
  by_cases hxy : x = y
  · simp [hxy]
  · have hb : (x == y) = false := by simp [hxy]
    rw [hb]; simp [hxy]
theorem eqS {f r : Option Bool} {p q : Prop} [Decidable p] [Decidable q] (hf : f = some (decide p)) (h : r = some (decide q)) : (Option.bind f fun r1 => cond (!r1) (some false) r) = some (decide (p ∧ q)) := by
  subst hf h
  by_cases hp : p <;> simp [hp]
theorem eqT : some true = some (decide True) := rfl
theorem eq_fin {p q : Prop} [Decidable p] [Decidable q] (h : p ↔ q) : some (decide p) = some (decide q) := by simp [h]
theorem eq_last {A X : Type} (x y : Int) {e : X} (s : A) : cond (!(x == y)) (some (.inr e)) (some (.inl s)) = (some (if x = y then .inl s else .inr e) : Option (A ⊕ X)) := by
  by_cases hxy : x = y
  · simp [hxy]
  · have hb : (x == y) = false := by simp [hxy]
    rw [hb]; simp [hxy]
theorem eq_last2 {A X : Type} {p : Prop} [Decidable p] (s : A) (e : X) : cond (!(decide p)) (some (.inr e)) (some (.inl s)) = (some (if p then .inl s else .inr e) : Option (A ⊕ X)) := by
  by_cases hp : p <;> simp [hp]

/- sizes -/
/-- The size that is left: if there is some, what was measured is small. -/
def SZ {α : Type} (f : α → Int → Option Int) (pre ok : α → Prop) : Prop := ∀ a left, pre a → 0 ≤ left → left ≤ NN → ∃ r, f a left = some r ∧ r ≤ left ∧ (0 ≤ r → ok a)
abbrev MX : Int := 9223372036854775807
def preL {α : Type} (pre : α → Prop) (a : List α) : Prop := (a.length : Int) ≤ MX ∧ ∀ x ∈ a, pre x
theorem sz_flat {α : Type} {pre : α → Prop} : SZ (fun (a : List α) left => cond (decide (W (left - (a.length : Int)) < 0)) (some (-1)) (some (W (left - (a.length : Int))))) (preL pre) (okL NN fun _ => True) := by
  intro a left ⟨hp, _⟩ h0 h1
  simp only [MX] at hp
  simp only [NN] at h1
  dsimp only
  rw [W_id (x := left - (a.length : Int)) (by omega) (by omega)]
  by_cases h : left - (a.length : Int) < 0
  · exact ⟨-1, by simp [h], by omega, fun h => by omega⟩
  · exact ⟨left - a.length, by simp [h], by omega, fun _ => ⟨by simp only [NN]; omega, fun _ _ => trivial⟩⟩
theorem sz_gen {α : Type} {f : List α → (Int × Int × Unit) → Option ((Int × Int × Unit) ⊕ ((Int × Unit) ⊕ Int))} {g : α → Int → Option Int} {pre ok : α → Prop} (hg : SZ g pre ok)
    (hf : ∀ (a : List α) (k : Int) (i : Nat) (x : α), a[i]? = some x → (i : Int) + 1 ≤ BB → f a (k, (i : Int), ()) = Option.bind (g x k) fun r => cond (decide (r < 0)) (some (.inr (.inr (-1)))) (some (.inl (r, (i : Int) + 1, ()))))
    (hf0 : ∀ (a : List α) (k : Int), f a (k, (a.length : Int), ()) = some (.inr (.inl (k, ())))) :
    SZ (fun (a : List α) left => cond (decide (W (left - (a.length : Int)) < 0)) (some (-1)) (Option.bind (iter (f a) (W (left - (a.length : Int)), 0, ())) (sumE (fun e => some e.1) some))) (preL pre) (okL NN ok) := by
  intro a left ⟨hp, hpe⟩ h0 h1
  simp only [MX] at hp
  simp only [NN] at h1
  dsimp only
  rw [W_id (x := left - (a.length : Int)) (by omega) (by omega)]
  by_cases h : left - (a.length : Int) < 0
  · exact ⟨-1, by simp [h], by omega, fun h => by omega⟩
  · have hd : decide (left - (a.length : Int) < 0) = false := by simp; omega
    simp only [hd, cond_false]
    have key : ∀ (s pre_ : List α) (k : Int), a = pre_ ++ s → 0 ≤ k → k ≤ NN → ∃ e, iter (f a) (k, (pre_.length : Int), ()) = some e ∧ ((e = .inr (-1)) ∨ ∃ r, e = .inl (r, ()) ∧ 0 ≤ r ∧ r ≤ k ∧ ∀ x ∈ s, ok x) := by
      intro s
      induction s with
      | nil =>
        intro pre_ k ha hk hk2
        have h2 := hf0 a k
        have : a.length = pre_.length := by rw [ha]; simp
        rw [this] at h2
        exact ⟨.inl (k, ()), by rw [iter_eq, h2], .inr ⟨k, rfl, hk, Int.le_refl _, by simp⟩⟩
      | cons x s ih =>
        intro pre_ k ha hk hk2
        have hx : a[pre_.length]? = some x := by rw [ha]; simp
        have hle : pre_.length < a.length := lt_of_get hx
        obtain ⟨r, h3, h4, h5⟩ := hg x k (hpe x (by rw [ha]; simp)) hk hk2
        have h6 := hf a k pre_.length x hx (by simp only [BB]; omega)
        rw [h3, Option.bind_some] at h6
        by_cases hr : r < 0
        · refine ⟨.inr (-1), ?_, .inl rfl⟩
          rw [iter_eq, h6]
          simp [hr]
        · obtain ⟨e, h7, h8⟩ := ih (pre_ ++ [x]) r (by rw [ha]; simp) (by omega) (by omega)
          refine ⟨e, ?_, ?_⟩
          · rw [iter_eq, h6]
            have hd : decide (r < 0) = false := by simp; omega
            simp only [hd, cond_false]
            rw [len_cons1] at h7
            exact h7
          · rcases h8 with h8 | ⟨q, h8, h9, h10, h11⟩
            · exact .inl h8
            · refine .inr ⟨q, h8, h9, by omega, fun y hy => ?_⟩
              rcases List.mem_cons.1 hy with rfl | hy
              · exact h5 (by omega)
              · exact h11 y hy
    obtain ⟨e, h2, h3⟩ := key a [] (left - a.length) rfl (by omega) (by simp only [NN]; omega)
    simp only [List.length_nil] at h2
    rcases h3 with rfl | ⟨r, rfl, h4, h5, h6⟩
    · refine ⟨-1, ?_, by omega, fun h => by omega⟩
      show Option.bind (iter (f a) (_, ((0 : Nat) : Int), ())) _ = _
      rw [h2]; rfl
    · refine ⟨r, ?_, by omega, fun _ => ⟨by simp only [NN]; omega, h6⟩⟩
      show Option.bind (iter (f a) (_, ((0 : Nat) : Int), ())) _ = _
      rw [h2]; rfl
/-- Two measures, one after the other. -/
theorem sz_then {α β : Type} {f : β → Int → Option Int} {pre ok : β → Prop} (hf : SZ f pre ok) {p : α → β} {g : α → Int → Option Int} {preA okA : α → Prop} (hg : SZ g preA okA) :
    SZ (fun a left => Option.bind (f (p a) left) fun r => cond (decide (r < 0)) (some (-1)) (g a r)) (fun a => pre (p a) ∧ preA a) (fun a => ok (p a) ∧ okA a) := by
  intro a left ⟨h1, h2⟩ h0 hn
  obtain ⟨r, k1, k2, k3⟩ := hf (p a) left h1 h0 hn
  simp only [k1, Option.bind_some]
  by_cases hr : r < 0
  · exact ⟨-1, by simp [hr], by omega, fun h => by omega⟩
  · obtain ⟨q, m1, m2, m3⟩ := hg a r h2 (by omega) (by omega)
    exact ⟨q, by simp [hr, m1], by omega, fun h => ⟨k3 (by omega), m3 h⟩⟩
theorem sz_end {α : Type} : SZ (fun (_ : α) r => some r) (fun _ => True) (fun _ => True) := fun a left _ _ _ => ⟨left, rfl, Int.le_refl _, fun _ => trivial⟩
end Net

/- Sizes, copies and equality, one for each type: printed by mathgen.py. -/
namespace Net
open Go
set_option linter.unusedVariables false
set_option linter.unusedSimpArgs false

theorem sz_IntS : SZ L_szIntS (preL (fun (_ : Int) => True)) (okL NN (fun (_ : Int) => True)) := by
  unfold L_szIntS
  exact sz_flat
theorem to_IntS : TO L_toIntS (okL NM (fun (_ : Int) => True)) := by
  unfold L_toIntS
  refine to_gen (ok := (fun (_ : Int) => True)) ?_ ?_
  · intro a out i x y hx hy hok hi
    have hlt := lt_of_get hx
    simp only [BB] at hi
    simp (disch := omega) only [rdI_at hx, rdI_at hy, hlt, W_id, decide_true, cond_true, Option.bind_some, Int.ofNat_lt, Int.toNat_natCast]
  · intro a out; simp
theorem eq_IntS : EQ L_eqIntS (okL NM (fun (_ : Int) => True)) := by
  unfold L_eqIntS
  refine eq_gen (ok := (fun (_ : Int) => True)) ?_ ?_
  · intro a b i x y hx hy hok hi
    have hlt := lt_of_get hx
    simp only [BB] at hi
    simp (disch := omega) only [rdI_at hx, rdI_at hy, hlt, W_id, decide_true, cond_true, Option.bind_some, Int.ofNat_lt]
    exact eq_last x y _
  · intro a b; simp

theorem to_Sat (a : Sat) : L_toSat a = some a := rfl
theorem eq_Sat (a b : Sat) : L_eqSat a b = some (decide (a = b)) := by
  unfold L_eqSat
  refine (eqI (eqI (eqI (eqI (eqT))))).trans (eq_fin ?_)
  cases a; cases b; simp

theorem sz_SatS : SZ L_szSatS (preL (fun (_ : Sat) => True)) (okL NN (fun (_ : Sat) => True)) := by
  unfold L_szSatS
  exact sz_flat
theorem to_SatS : TO L_toSatS (okL NM (fun (_ : Sat) => True)) := by
  unfold L_toSatS
  refine to_gen (ok := (fun (_ : Sat) => True)) ?_ ?_
  · intro a out i x y hx hy hok hi
    have hlt := lt_of_get hx
    simp only [BB] at hi
    simp (disch := omega) only [rdI_at hx, rdI_at hy, hlt, W_id, decide_true, cond_true, Option.bind_some, Int.ofNat_lt, Int.toNat_natCast, L_toSat]
  · intro a out; simp
theorem eq_SatS : EQ L_eqSatS (okL NM (fun (_ : Sat) => True)) := by
  unfold L_eqSatS
  refine eq_gen (ok := (fun (_ : Sat) => True)) ?_ ?_
  · intro a b i x y hx hy hok hi
    have hlt := lt_of_get hx
    simp only [BB] at hi
    simp (disch := omega) only [rdI_at hx, rdI_at hy, hlt, W_id, decide_true, cond_true, Option.bind_some, Int.ofNat_lt, eq_Sat x y]
    exact eq_last2 _ _
  · intro a b; simp

theorem to_Site (a : Site) : L_toSite a = some a := rfl
theorem eq_Site (a b : Site) : L_eqSite a b = some (decide (a = b)) := by
  unfold L_eqSite
  refine (eqI (eqI (eqI (eqT)))).trans (eq_fin ?_)
  cases a; cases b; simp

theorem sz_SiteS : SZ L_szSiteS (preL (fun (_ : Site) => True)) (okL NN (fun (_ : Site) => True)) := by
  unfold L_szSiteS
  exact sz_flat
theorem to_SiteS : TO L_toSiteS (okL NM (fun (_ : Site) => True)) := by
  unfold L_toSiteS
  refine to_gen (ok := (fun (_ : Site) => True)) ?_ ?_
  · intro a out i x y hx hy hok hi
    have hlt := lt_of_get hx
    simp only [BB] at hi
    simp (disch := omega) only [rdI_at hx, rdI_at hy, hlt, W_id, decide_true, cond_true, Option.bind_some, Int.ofNat_lt, Int.toNat_natCast, L_toSite]
  · intro a out; simp
theorem eq_SiteS : EQ L_eqSiteS (okL NM (fun (_ : Site) => True)) := by
  unfold L_eqSiteS
  refine eq_gen (ok := (fun (_ : Site) => True)) ?_ ?_
  · intro a b i x y hx hy hok hi
    have hlt := lt_of_get hx
    simp only [BB] at hi
    simp (disch := omega) only [rdI_at hx, rdI_at hy, hlt, W_id, decide_true, cond_true, Option.bind_some, Int.ofNat_lt, eq_Site x y]
    exact eq_last2 _ _
  · intro a b; simp

theorem to_Arc (a : Arc) : L_toArc a = some a := rfl
theorem eq_Arc (a b : Arc) : L_eqArc a b = some (decide (a = b)) := by
  unfold L_eqArc
  refine (eqI (eqI (eqT))).trans (eq_fin ?_)
  cases a; cases b; simp

theorem to_Zone (a : Zone) : L_toZone a = some a := rfl
theorem eq_Zone (a b : Zone) : L_eqZone a b = some (decide (a = b)) := by
  unfold L_eqZone
  refine (eqI (eqS (eq_Arc _ _) (eqT))).trans (eq_fin ?_)
  cases a; cases b; simp

theorem sz_ZoneS : SZ L_szZoneS (preL (fun (_ : Zone) => True)) (okL NN (fun (_ : Zone) => True)) := by
  unfold L_szZoneS
  exact sz_flat
theorem to_ZoneS : TO L_toZoneS (okL NM (fun (_ : Zone) => True)) := by
  unfold L_toZoneS
  refine to_gen (ok := (fun (_ : Zone) => True)) ?_ ?_
  · intro a out i x y hx hy hok hi
    have hlt := lt_of_get hx
    simp only [BB] at hi
    simp (disch := omega) only [rdI_at hx, rdI_at hy, hlt, W_id, decide_true, cond_true, Option.bind_some, Int.ofNat_lt, Int.toNat_natCast, L_toZone, L_toArc]
  · intro a out; simp
theorem eq_ZoneS : EQ L_eqZoneS (okL NM (fun (_ : Zone) => True)) := by
  unfold L_eqZoneS
  refine eq_gen (ok := (fun (_ : Zone) => True)) ?_ ?_
  · intro a b i x y hx hy hok hi
    have hlt := lt_of_get hx
    simp only [BB] at hi
    simp (disch := omega) only [rdI_at hx, rdI_at hy, hlt, W_id, decide_true, cond_true, Option.bind_some, Int.ofNat_lt, eq_Zone x y]
    exact eq_last2 _ _
  · intro a b; simp

def okSky (n : Int) (x : Sky) : Prop := okL n (fun (_ : Sat) => True) x.Sats ∧ okL n (fun (_ : Site) => True) x.Sites ∧ okL n (fun (_ : Zone) => True) x.Zones ∧ True
def preSky (x : Sky) : Prop := preL (fun (_ : Sat) => True) x.Sats ∧ preL (fun (_ : Site) => True) x.Sites ∧ preL (fun (_ : Zone) => True) x.Zones ∧ True
theorem okSky_mono {n m : Int} (hnm : n ≤ m) (x : Sky) : okSky n x → okSky m x := fun ⟨h0, h1, h2, _⟩ => ⟨okL_mono hnm (fun _ h => h) h0, okL_mono hnm (fun _ h => h) h1, okL_mono hnm (fun _ h => h) h2, trivial⟩
theorem sz_Sky : SZ L_szSky preSky (okSky NN) := by
  unfold L_szSky
  exact sz_then (p := fun (a : Sky) => a.Sats) sz_SatS (sz_then (p := fun (a : Sky) => a.Sites) sz_SiteS (sz_then (p := fun (a : Sky) => a.Zones) sz_ZoneS (sz_end)))
theorem to_Sky (a : Sky) (h : okSky NM a) : L_toSky a = some a := by
  obtain ⟨h0, h1, h2, _⟩ := h
  simp only [L_toSky, to_SatS _ h0, to_SiteS _ h1, to_ZoneS _ h2, Option.bind_some]
theorem eq_Sky (a b : Sky) (h : okSky NM a) : L_eqSky a b = some (decide (a = b)) := by
  obtain ⟨hhSats, hhSites, hhZones, _⟩ := h
  unfold L_eqSky
  refine (eqI (eqS (eq_SatS _ _ hhSats) (eqS (eq_SiteS _ _ hhSites) (eqI (eqI (eqI (eqI (eqI (eqS (eq_ZoneS _ _ hhZones) (eqI (eqT))))))))))).trans (eq_fin ?_)
  cases a; cases b; simp

theorem to_Span (a : Span) : L_toSpan a = some a := rfl
theorem eq_Span (a b : Span) : L_eqSpan a b = some (decide (a = b)) := by
  unfold L_eqSpan
  refine (eqI (eqI (eqT))).trans (eq_fin ?_)
  cases a; cases b; simp

theorem to_Link (a : Link) : L_toLink a = some a := rfl
theorem eq_Link (a b : Link) : L_eqLink a b = some (decide (a = b)) := by
  unfold L_eqLink
  refine (eqI (eqI (eqT))).trans (eq_fin ?_)
  cases a; cases b; simp

theorem sz_LinkS : SZ L_szLinkS (preL (fun (_ : Link) => True)) (okL NN (fun (_ : Link) => True)) := by
  unfold L_szLinkS
  exact sz_flat
theorem to_LinkS : TO L_toLinkS (okL NM (fun (_ : Link) => True)) := by
  unfold L_toLinkS
  refine to_gen (ok := (fun (_ : Link) => True)) ?_ ?_
  · intro a out i x y hx hy hok hi
    have hlt := lt_of_get hx
    simp only [BB] at hi
    simp (disch := omega) only [rdI_at hx, rdI_at hy, hlt, W_id, decide_true, cond_true, Option.bind_some, Int.ofNat_lt, Int.toNat_natCast, L_toLink]
  · intro a out; simp
theorem eq_LinkS : EQ L_eqLinkS (okL NM (fun (_ : Link) => True)) := by
  unfold L_eqLinkS
  refine eq_gen (ok := (fun (_ : Link) => True)) ?_ ?_
  · intro a b i x y hx hy hok hi
    have hlt := lt_of_get hx
    simp only [BB] at hi
    simp (disch := omega) only [rdI_at hx, rdI_at hy, hlt, W_id, decide_true, cond_true, Option.bind_some, Int.ofNat_lt, eq_Link x y]
    exact eq_last2 _ _
  · intro a b; simp

def okTable (n : Int) (x : Table) : Prop := okL n (fun (_ : Int) => True) x.Dist ∧ okL n (fun (_ : Int) => True) x.Next ∧ True
def preTable (x : Table) : Prop := preL (fun (_ : Int) => True) x.Dist ∧ preL (fun (_ : Int) => True) x.Next ∧ True
theorem okTable_mono {n m : Int} (hnm : n ≤ m) (x : Table) : okTable n x → okTable m x := fun ⟨h0, h1, _⟩ => ⟨okL_mono hnm (fun _ h => h) h0, okL_mono hnm (fun _ h => h) h1, trivial⟩
theorem sz_Table : SZ L_szTable preTable (okTable NN) := by
  unfold L_szTable
  exact sz_then (p := fun (a : Table) => a.Dist) sz_IntS (sz_then (p := fun (a : Table) => a.Next) sz_IntS (sz_end))
theorem to_Table (a : Table) (h : okTable NM a) : L_toTable a = some a := by
  obtain ⟨h0, h1, _⟩ := h
  simp only [L_toTable, to_IntS _ h0, to_IntS _ h1, Option.bind_some]
theorem eq_Table (a b : Table) (h : okTable NM a) : L_eqTable a b = some (decide (a = b)) := by
  obtain ⟨hhDist, hhNext, _⟩ := h
  unfold L_eqTable
  refine (eqI (eqS (eq_IntS _ _ hhDist) (eqS (eq_IntS _ _ hhNext) (eqT)))).trans (eq_fin ?_)
  cases a; cases b; simp

theorem sz_TableS : SZ L_szTableS (preL preTable) (okL NN (okTable NN)) := by
  unfold L_szTableS
  refine sz_gen sz_Table ?_ ?_
  · intro a k i x hx hi
    have hlt := lt_of_get hx
    simp only [BB] at hi
    simp (disch := omega) only [rdI_at hx, hlt, W_id, decide_true, cond_true, Option.bind_some, Int.ofNat_lt]
  · intro a k; simp
theorem to_TableS : TO L_toTableS (okL NM (okTable NM)) := by
  unfold L_toTableS
  refine to_gen (ok := (okTable NM)) ?_ ?_
  · intro a out i x y hx hy hok hi
    have hlt := lt_of_get hx
    simp only [BB] at hi
    simp (disch := omega) only [rdI_at hx, rdI_at hy, hlt, W_id, decide_true, cond_true, Option.bind_some, Int.ofNat_lt, Int.toNat_natCast, to_Table x hok]
  · intro a out; simp
theorem eq_TableS : EQ L_eqTableS (okL NM (okTable NM)) := by
  unfold L_eqTableS
  refine eq_gen (ok := (okTable NM)) ?_ ?_
  · intro a b i x y hx hy hok hi
    have hlt := lt_of_get hx
    simp only [BB] at hi
    simp (disch := omega) only [rdI_at hx, rdI_at hy, hlt, W_id, decide_true, cond_true, Option.bind_some, Int.ofNat_lt, eq_Table x y hok]
    exact eq_last2 _ _
  · intro a b; simp

def okPiece (n : Int) (x : Piece) : Prop := okL n (fun (_ : Link) => True) x.Links ∧ okL n (okTable n) x.Tables ∧ True
def prePiece (x : Piece) : Prop := preL (fun (_ : Link) => True) x.Links ∧ preL preTable x.Tables ∧ True
theorem okPiece_mono {n m : Int} (hnm : n ≤ m) (x : Piece) : okPiece n x → okPiece m x := fun ⟨h0, h1, _⟩ => ⟨okL_mono hnm (fun _ h => h) h0, okL_mono hnm (fun x => okTable_mono hnm x) h1, trivial⟩
theorem sz_Piece : SZ L_szPiece prePiece (okPiece NN) := by
  unfold L_szPiece
  exact sz_then (p := fun (a : Piece) => a.Links) sz_LinkS (sz_then (p := fun (a : Piece) => a.Tables) sz_TableS (sz_end))
theorem to_Piece (a : Piece) (h : okPiece NM a) : L_toPiece a = some a := by
  obtain ⟨h0, h1, _⟩ := h
  simp only [L_toPiece, to_LinkS _ h0, to_TableS _ h1, L_toSpan, Option.bind_some]
theorem eq_Piece (a b : Piece) (h : okPiece NM a) : L_eqPiece a b = some (decide (a = b)) := by
  obtain ⟨hhLinks, hhTables, _⟩ := h
  unfold L_eqPiece
  refine (eqS (eq_Span _ _) (eqS (eq_LinkS _ _ hhLinks) (eqS (eq_TableS _ _ hhTables) (eqT)))).trans (eq_fin ?_)
  cases a; cases b; simp

theorem sz_PieceS : SZ L_szPieceS (preL prePiece) (okL NN (okPiece NN)) := by
  unfold L_szPieceS
  refine sz_gen sz_Piece ?_ ?_
  · intro a k i x hx hi
    have hlt := lt_of_get hx
    simp only [BB] at hi
    simp (disch := omega) only [rdI_at hx, hlt, W_id, decide_true, cond_true, Option.bind_some, Int.ofNat_lt]
  · intro a k; simp
theorem to_PieceS : TO L_toPieceS (okL NM (okPiece NM)) := by
  unfold L_toPieceS
  refine to_gen (ok := (okPiece NM)) ?_ ?_
  · intro a out i x y hx hy hok hi
    have hlt := lt_of_get hx
    simp only [BB] at hi
    simp (disch := omega) only [rdI_at hx, rdI_at hy, hlt, W_id, decide_true, cond_true, Option.bind_some, Int.ofNat_lt, Int.toNat_natCast, to_Piece x hok]
  · intro a out; simp
theorem eq_PieceS : EQ L_eqPieceS (okL NM (okPiece NM)) := by
  unfold L_eqPieceS
  refine eq_gen (ok := (okPiece NM)) ?_ ?_
  · intro a b i x y hx hy hok hi
    have hlt := lt_of_get hx
    simp only [BB] at hi
    simp (disch := omega) only [rdI_at hx, rdI_at hy, hlt, W_id, decide_true, cond_true, Option.bind_some, Int.ofNat_lt, eq_Piece x y hok]
    exact eq_last2 _ _
  · intro a b; simp

def okProgram (n : Int) (x : Prog) : Prop := okL n (okPiece n) x.Pieces ∧ True
def preProgram (x : Prog) : Prop := preL prePiece x.Pieces ∧ True
theorem okProgram_mono {n m : Int} (hnm : n ≤ m) (x : Prog) : okProgram n x → okProgram m x := fun ⟨h0, _⟩ => ⟨okL_mono hnm (fun x => okPiece_mono hnm x) h0, trivial⟩
theorem sz_Program : SZ L_szProgram preProgram (okProgram NN) := by
  unfold L_szProgram
  exact sz_then (p := fun (a : Prog) => a.Pieces) sz_PieceS (sz_end)
theorem to_Program (a : Prog) (h : okProgram NM a) : L_toProgram a = some a := by
  obtain ⟨h0, _⟩ := h
  simp only [L_toProgram, to_PieceS _ h0, Option.bind_some]
theorem eq_Program (a b : Prog) (h : okProgram NM a) : L_eqProgram a b = some (decide (a = b)) := by
  obtain ⟨hhPieces, _⟩ := h
  unfold L_eqProgram
  refine (eqI (eqI (eqI (eqS (eq_PieceS _ _ hhPieces) (eqT))))).trans (eq_fin ?_)
  cases a; cases b; simp

def okLaw (n : Int) (x : Law) : Prop := okL n (fun (_ : Int) => True) x.Allowed ∧ True
def preLaw (x : Law) : Prop := preL (fun (_ : Int) => True) x.Allowed ∧ True
theorem okLaw_mono {n m : Int} (hnm : n ≤ m) (x : Law) : okLaw n x → okLaw m x := fun ⟨h0, _⟩ => ⟨okL_mono hnm (fun _ h => h) h0, trivial⟩
theorem sz_Law : SZ L_szLaw preLaw (okLaw NN) := by
  unfold L_szLaw
  exact sz_then (p := fun (a : Law) => a.Allowed) sz_IntS (sz_end)
theorem to_Law (a : Law) (h : okLaw NM a) : L_toLaw a = some a := by
  obtain ⟨h0, _⟩ := h
  simp only [L_toLaw, to_IntS _ h0, Option.bind_some]
theorem eq_Law (a b : Law) (h : okLaw NM a) : L_eqLaw a b = some (decide (a = b)) := by
  obtain ⟨hhAllowed, _⟩ := h
  unfold L_eqLaw
  refine (eqS (eq_IntS _ _ hhAllowed) (eqT)).trans (eq_fin ?_)
  cases a; cases b; simp

theorem to_Battery (a : Battery) : L_toBattery a = some a := rfl
theorem eq_Battery (a b : Battery) : L_eqBattery a b = some (decide (a = b)) := by
  unfold L_eqBattery
  refine (eqI (eqI (eqI (eqI (eqI (eqI (eqT))))))).trans (eq_fin ?_)
  cases a; cases b; simp

theorem sz_BatteryS : SZ L_szBatteryS (preL (fun (_ : Battery) => True)) (okL NN (fun (_ : Battery) => True)) := by
  unfold L_szBatteryS
  exact sz_flat
theorem to_BatteryS : TO L_toBatteryS (okL NM (fun (_ : Battery) => True)) := by
  unfold L_toBatteryS
  refine to_gen (ok := (fun (_ : Battery) => True)) ?_ ?_
  · intro a out i x y hx hy hok hi
    have hlt := lt_of_get hx
    simp only [BB] at hi
    simp (disch := omega) only [rdI_at hx, rdI_at hy, hlt, W_id, decide_true, cond_true, Option.bind_some, Int.ofNat_lt, Int.toNat_natCast, L_toBattery]
  · intro a out; simp
theorem eq_BatteryS : EQ L_eqBatteryS (okL NM (fun (_ : Battery) => True)) := by
  unfold L_eqBatteryS
  refine eq_gen (ok := (fun (_ : Battery) => True)) ?_ ?_
  · intro a b i x y hx hy hok hi
    have hlt := lt_of_get hx
    simp only [BB] at hi
    simp (disch := omega) only [rdI_at hx, rdI_at hy, hlt, W_id, decide_true, cond_true, Option.bind_some, Int.ofNat_lt, eq_Battery x y]
    exact eq_last2 _ _
  · intro a b; simp

theorem to_Packet (a : Packet) : L_toPacket a = some a := rfl
theorem eq_Packet (a b : Packet) : L_eqPacket a b = some (decide (a = b)) := by
  unfold L_eqPacket
  refine (eqI (eqI (eqI (eqI (eqI (eqI (eqT))))))).trans (eq_fin ?_)
  cases a; cases b; simp

theorem sz_PacketS : SZ L_szPacketS (preL (fun (_ : Packet) => True)) (okL NN (fun (_ : Packet) => True)) := by
  unfold L_szPacketS
  exact sz_flat
theorem to_PacketS : TO L_toPacketS (okL NM (fun (_ : Packet) => True)) := by
  unfold L_toPacketS
  refine to_gen (ok := (fun (_ : Packet) => True)) ?_ ?_
  · intro a out i x y hx hy hok hi
    have hlt := lt_of_get hx
    simp only [BB] at hi
    simp (disch := omega) only [rdI_at hx, rdI_at hy, hlt, W_id, decide_true, cond_true, Option.bind_some, Int.ofNat_lt, Int.toNat_natCast, L_toPacket]
  · intro a out; simp
theorem eq_PacketS : EQ L_eqPacketS (okL NM (fun (_ : Packet) => True)) := by
  unfold L_eqPacketS
  refine eq_gen (ok := (fun (_ : Packet) => True)) ?_ ?_
  · intro a b i x y hx hy hok hi
    have hlt := lt_of_get hx
    simp only [BB] at hi
    simp (disch := omega) only [rdI_at hx, rdI_at hy, hlt, W_id, decide_true, cond_true, Option.bind_some, Int.ofNat_lt, eq_Packet x y]
    exact eq_last2 _ _
  · intro a b; simp

def okQueue (n : Int) (x : Queue) : Prop := okL n (fun (_ : Packet) => True) x.Items ∧ True
def preQueue (x : Queue) : Prop := preL (fun (_ : Packet) => True) x.Items ∧ True
theorem okQueue_mono {n m : Int} (hnm : n ≤ m) (x : Queue) : okQueue n x → okQueue m x := fun ⟨h0, _⟩ => ⟨okL_mono hnm (fun _ h => h) h0, trivial⟩
theorem sz_Queue : SZ L_szQueue preQueue (okQueue NN) := by
  unfold L_szQueue
  exact sz_then (p := fun (a : Queue) => a.Items) sz_PacketS (sz_end)
theorem to_Queue (a : Queue) (h : okQueue NM a) : L_toQueue a = some a := by
  obtain ⟨h0, _⟩ := h
  simp only [L_toQueue, to_PacketS _ h0, Option.bind_some]
theorem eq_Queue (a b : Queue) (h : okQueue NM a) : L_eqQueue a b = some (decide (a = b)) := by
  obtain ⟨hhItems, _⟩ := h
  unfold L_eqQueue
  refine (eqS (eq_PacketS _ _ hhItems) (eqT)).trans (eq_fin ?_)
  cases a; cases b; simp

theorem sz_QueueS : SZ L_szQueueS (preL preQueue) (okL NN (okQueue NN)) := by
  unfold L_szQueueS
  refine sz_gen sz_Queue ?_ ?_
  · intro a k i x hx hi
    have hlt := lt_of_get hx
    simp only [BB] at hi
    simp (disch := omega) only [rdI_at hx, hlt, W_id, decide_true, cond_true, Option.bind_some, Int.ofNat_lt]
  · intro a k; simp
theorem to_QueueS : TO L_toQueueS (okL NM (okQueue NM)) := by
  unfold L_toQueueS
  refine to_gen (ok := (okQueue NM)) ?_ ?_
  · intro a out i x y hx hy hok hi
    have hlt := lt_of_get hx
    simp only [BB] at hi
    simp (disch := omega) only [rdI_at hx, rdI_at hy, hlt, W_id, decide_true, cond_true, Option.bind_some, Int.ofNat_lt, Int.toNat_natCast, to_Queue x hok]
  · intro a out; simp
theorem eq_QueueS : EQ L_eqQueueS (okL NM (okQueue NM)) := by
  unfold L_eqQueueS
  refine eq_gen (ok := (okQueue NM)) ?_ ?_
  · intro a b i x y hx hy hok hi
    have hlt := lt_of_get hx
    simp only [BB] at hi
    simp (disch := omega) only [rdI_at hx, rdI_at hy, hlt, W_id, decide_true, cond_true, Option.bind_some, Int.ofNat_lt, eq_Queue x y hok]
    exact eq_last2 _ _
  · intro a b; simp

theorem to_Flow (a : Flow) : L_toFlow a = some a := rfl
theorem eq_Flow (a b : Flow) : L_eqFlow a b = some (decide (a = b)) := by
  unfold L_eqFlow
  refine (eqI (eqI (eqI (eqI (eqT))))).trans (eq_fin ?_)
  cases a; cases b; simp

theorem sz_FlowS : SZ L_szFlowS (preL (fun (_ : Flow) => True)) (okL NN (fun (_ : Flow) => True)) := by
  unfold L_szFlowS
  exact sz_flat
theorem to_FlowS : TO L_toFlowS (okL NM (fun (_ : Flow) => True)) := by
  unfold L_toFlowS
  refine to_gen (ok := (fun (_ : Flow) => True)) ?_ ?_
  · intro a out i x y hx hy hok hi
    have hlt := lt_of_get hx
    simp only [BB] at hi
    simp (disch := omega) only [rdI_at hx, rdI_at hy, hlt, W_id, decide_true, cond_true, Option.bind_some, Int.ofNat_lt, Int.toNat_natCast, L_toFlow]
  · intro a out; simp
theorem eq_FlowS : EQ L_eqFlowS (okL NM (fun (_ : Flow) => True)) := by
  unfold L_eqFlowS
  refine eq_gen (ok := (fun (_ : Flow) => True)) ?_ ?_
  · intro a b i x y hx hy hok hi
    have hlt := lt_of_get hx
    simp only [BB] at hi
    simp (disch := omega) only [rdI_at hx, rdI_at hy, hlt, W_id, decide_true, cond_true, Option.bind_some, Int.ofNat_lt, eq_Flow x y]
    exact eq_last2 _ _
  · intro a b; simp

def okStream (n : Int) (x : Stream) : Prop := okL n (fun (_ : Int) => True) x.Kept ∧ True
def preStream (x : Stream) : Prop := preL (fun (_ : Int) => True) x.Kept ∧ True
theorem okStream_mono {n m : Int} (hnm : n ≤ m) (x : Stream) : okStream n x → okStream m x := fun ⟨h0, _⟩ => ⟨okL_mono hnm (fun _ h => h) h0, trivial⟩
theorem sz_Stream : SZ L_szStream preStream (okStream NN) := by
  unfold L_szStream
  exact sz_then (p := fun (a : Stream) => a.Kept) sz_IntS (sz_end)
theorem to_Stream (a : Stream) (h : okStream NM a) : L_toStream a = some a := by
  obtain ⟨h0, _⟩ := h
  simp only [L_toStream, to_IntS _ h0, Option.bind_some]
theorem eq_Stream (a b : Stream) (h : okStream NM a) : L_eqStream a b = some (decide (a = b)) := by
  obtain ⟨hhKept, _⟩ := h
  unfold L_eqStream
  refine (eqI (eqI (eqS (eq_IntS _ _ hhKept) (eqT)))).trans (eq_fin ?_)
  cases a; cases b; simp

theorem sz_StreamS : SZ L_szStreamS (preL preStream) (okL NN (okStream NN)) := by
  unfold L_szStreamS
  refine sz_gen sz_Stream ?_ ?_
  · intro a k i x hx hi
    have hlt := lt_of_get hx
    simp only [BB] at hi
    simp (disch := omega) only [rdI_at hx, hlt, W_id, decide_true, cond_true, Option.bind_some, Int.ofNat_lt]
  · intro a k; simp
theorem to_StreamS : TO L_toStreamS (okL NM (okStream NM)) := by
  unfold L_toStreamS
  refine to_gen (ok := (okStream NM)) ?_ ?_
  · intro a out i x y hx hy hok hi
    have hlt := lt_of_get hx
    simp only [BB] at hi
    simp (disch := omega) only [rdI_at hx, rdI_at hy, hlt, W_id, decide_true, cond_true, Option.bind_some, Int.ofNat_lt, Int.toNat_natCast, to_Stream x hok]
  · intro a out; simp
theorem eq_StreamS : EQ L_eqStreamS (okL NM (okStream NM)) := by
  unfold L_eqStreamS
  refine eq_gen (ok := (okStream NM)) ?_ ?_
  · intro a b i x y hx hy hok hi
    have hlt := lt_of_get hx
    simp only [BB] at hi
    simp (disch := omega) only [rdI_at hx, rdI_at hy, hlt, W_id, decide_true, cond_true, Option.bind_some, Int.ofNat_lt, eq_Stream x y hok]
    exact eq_last2 _ _
  · intro a b; simp

theorem to_Fault (a : Fault) : L_toFault a = some a := rfl
theorem eq_Fault (a b : Fault) : L_eqFault a b = some (decide (a = b)) := by
  unfold L_eqFault
  refine (eqI (eqI (eqI (eqI (eqT))))).trans (eq_fin ?_)
  cases a; cases b; simp

theorem sz_FaultS : SZ L_szFaultS (preL (fun (_ : Fault) => True)) (okL NN (fun (_ : Fault) => True)) := by
  unfold L_szFaultS
  exact sz_flat
theorem to_FaultS : TO L_toFaultS (okL NM (fun (_ : Fault) => True)) := by
  unfold L_toFaultS
  refine to_gen (ok := (fun (_ : Fault) => True)) ?_ ?_
  · intro a out i x y hx hy hok hi
    have hlt := lt_of_get hx
    simp only [BB] at hi
    simp (disch := omega) only [rdI_at hx, rdI_at hy, hlt, W_id, decide_true, cond_true, Option.bind_some, Int.ofNat_lt, Int.toNat_natCast, L_toFault]
  · intro a out; simp
theorem eq_FaultS : EQ L_eqFaultS (okL NM (fun (_ : Fault) => True)) := by
  unfold L_eqFaultS
  refine eq_gen (ok := (fun (_ : Fault) => True)) ?_ ?_
  · intro a b i x y hx hy hok hi
    have hlt := lt_of_get hx
    simp only [BB] at hi
    simp (disch := omega) only [rdI_at hx, rdI_at hy, hlt, W_id, decide_true, cond_true, Option.bind_some, Int.ofNat_lt, eq_Fault x y]
    exact eq_last2 _ _
  · intro a b; simp

theorem to_Sent (a : Sent) : L_toSent a = some a := rfl
theorem eq_Sent (a b : Sent) : L_eqSent a b = some (decide (a = b)) := by
  unfold L_eqSent
  refine (eqI (eqI (eqI (eqI (eqT))))).trans (eq_fin ?_)
  cases a; cases b; simp

theorem sz_SentS : SZ L_szSentS (preL (fun (_ : Sent) => True)) (okL NN (fun (_ : Sent) => True)) := by
  unfold L_szSentS
  exact sz_flat
theorem to_SentS : TO L_toSentS (okL NM (fun (_ : Sent) => True)) := by
  unfold L_toSentS
  refine to_gen (ok := (fun (_ : Sent) => True)) ?_ ?_
  · intro a out i x y hx hy hok hi
    have hlt := lt_of_get hx
    simp only [BB] at hi
    simp (disch := omega) only [rdI_at hx, rdI_at hy, hlt, W_id, decide_true, cond_true, Option.bind_some, Int.ofNat_lt, Int.toNat_natCast, L_toSent]
  · intro a out; simp
theorem eq_SentS : EQ L_eqSentS (okL NM (fun (_ : Sent) => True)) := by
  unfold L_eqSentS
  refine eq_gen (ok := (fun (_ : Sent) => True)) ?_ ?_
  · intro a b i x y hx hy hok hi
    have hlt := lt_of_get hx
    simp only [BB] at hi
    simp (disch := omega) only [rdI_at hx, rdI_at hy, hlt, W_id, decide_true, cond_true, Option.bind_some, Int.ofNat_lt, eq_Sent x y]
    exact eq_last2 _ _
  · intro a b; simp

def okWorld (n : Int) (x : Wd) : Prop := okSky n x.Sky ∧ okProgram n x.Program ∧ okLaw n x.Law ∧ okL n (fun (_ : Int) => True) x.Offsets ∧ okL n (fun (_ : Battery) => True) x.Batteries ∧ okL n (okQueue n) x.Queues ∧ okL n (fun (_ : Flow) => True) x.Flows ∧ okL n (fun (_ : Int) => True) x.Counts ∧ okL n (okStream n) x.Streams ∧ okL n (fun (_ : Fault) => True) x.Faults ∧ okL n (fun (_ : Packet) => True) x.Done ∧ okL n (fun (_ : Sent) => True) x.Log ∧ True
def preWorld (x : Wd) : Prop := preSky x.Sky ∧ preProgram x.Program ∧ preLaw x.Law ∧ preL (fun (_ : Int) => True) x.Offsets ∧ preL (fun (_ : Battery) => True) x.Batteries ∧ preL preQueue x.Queues ∧ preL (fun (_ : Flow) => True) x.Flows ∧ preL (fun (_ : Int) => True) x.Counts ∧ preL preStream x.Streams ∧ preL (fun (_ : Fault) => True) x.Faults ∧ preL (fun (_ : Packet) => True) x.Done ∧ preL (fun (_ : Sent) => True) x.Log ∧ True
theorem okWorld_mono {n m : Int} (hnm : n ≤ m) (x : Wd) : okWorld n x → okWorld m x := fun ⟨h0, h1, h2, h3, h4, h5, h6, h7, h8, h9, h10, h11, _⟩ => ⟨okSky_mono hnm _ h0, okProgram_mono hnm _ h1, okLaw_mono hnm _ h2, okL_mono hnm (fun _ h => h) h3, okL_mono hnm (fun _ h => h) h4, okL_mono hnm (fun x => okQueue_mono hnm x) h5, okL_mono hnm (fun _ h => h) h6, okL_mono hnm (fun _ h => h) h7, okL_mono hnm (fun x => okStream_mono hnm x) h8, okL_mono hnm (fun _ h => h) h9, okL_mono hnm (fun _ h => h) h10, okL_mono hnm (fun _ h => h) h11, trivial⟩
theorem sz_World : SZ L_szWorld preWorld (okWorld NN) := by
  unfold L_szWorld
  exact sz_then (p := fun (a : Wd) => a.Sky) sz_Sky (sz_then (p := fun (a : Wd) => a.Program) sz_Program (sz_then (p := fun (a : Wd) => a.Law) sz_Law (sz_then (p := fun (a : Wd) => a.Offsets) sz_IntS (sz_then (p := fun (a : Wd) => a.Batteries) sz_BatteryS (sz_then (p := fun (a : Wd) => a.Queues) sz_QueueS (sz_then (p := fun (a : Wd) => a.Flows) sz_FlowS (sz_then (p := fun (a : Wd) => a.Counts) sz_IntS (sz_then (p := fun (a : Wd) => a.Streams) sz_StreamS (sz_then (p := fun (a : Wd) => a.Faults) sz_FaultS (sz_then (p := fun (a : Wd) => a.Done) sz_PacketS (sz_then (p := fun (a : Wd) => a.Log) sz_SentS (sz_end))))))))))))
theorem to_World (a : Wd) (h : okWorld NM a) : L_toWorld a = some a := by
  obtain ⟨h0, h1, h2, h3, h4, h5, h6, h7, h8, h9, h10, h11, _⟩ := h
  simp only [L_toWorld, to_Sky _ h0, to_Program _ h1, to_Law _ h2, to_IntS _ h3, to_BatteryS _ h4, to_QueueS _ h5, to_FlowS _ h6, to_IntS _ h7, to_StreamS _ h8, to_FaultS _ h9, to_PacketS _ h10, to_SentS _ h11, Option.bind_some]
theorem eq_World (a b : Wd) (h : okWorld NM a) : L_eqWorld a b = some (decide (a = b)) := by
  obtain ⟨hhSky, hhProgram, hhLaw, hhOffsets, hhBatteries, hhQueues, hhFlows, hhCounts, hhStreams, hhFaults, hhDone, hhLog, _⟩ := h
  unfold L_eqWorld
  refine (eqS (eq_Sky _ _ hhSky) (eqS (eq_Program _ _ hhProgram) (eqS (eq_Law _ _ hhLaw) (eqS (eq_IntS _ _ hhOffsets) (eqS (eq_BatteryS _ _ hhBatteries) (eqS (eq_QueueS _ _ hhQueues) (eqS (eq_FlowS _ _ hhFlows) (eqS (eq_IntS _ _ hhCounts) (eqS (eq_StreamS _ _ hhStreams) (eqS (eq_FaultS _ _ hhFaults) (eqI (eqI (eqS (eq_PacketS _ _ hhDone) (eqS (eq_SentS _ _ hhLog) (eqT))))))))))))))).trans (eq_fin ?_)
  cases a; cases b; simp

end Net

/- Marks laid and held, one for each type: printed by mathgen.py. -/
namespace Net
open Go
set_option linter.unusedVariables false
set_option linter.unusedSimpArgs false

theorem mh_IntS : MH L_markIntS L_heldIntS (sumC (fun (_ : Int) => 1)) (okL NM (fun (_ : Int) => True)) := by
  unfold L_markIntS L_heldIntS
  refine mh_list (fun (_ : Int) => 1) (fun (_ : Int) => True) (fun y k m => y = k ∧ 0 ≤ k ∧ k + 1 ≤ BB ∧ m = k + 1) ?_ ?_ ?_ ?_
  · intro xs k i x hx hok hk hc hi
    have hlt := lt_of_get hx
    simp only [BB] at hc hi ⊢
    refine ⟨k, ?_, rfl, hk, by omega, by omega⟩
    simp (disch := omega) only [rdI_at hx, rdI_set hx, hlt, W_id, Int.toNat_natCast, List.set_set, decide_true, cond_true, Option.bind_some, Int.ofNat_lt]
    try (simp only [Option.some.injEq, Sum.inl.injEq, Prod.mk.injEq, true_and, and_true]; omega)
  · intro xs k; simp
  · rintro ys i y k m hy ⟨rfl, hk, hc, rfl⟩ hi
    have hlt := lt_of_get hy
    simp only [BB] at hc hi
    simp (disch := omega) only [rdI_at hy, hlt, W_id, decide_true, cond_true, Option.bind_some, Int.ofNat_lt, BEq.rfl, Bool.not_true, cond_false]
  · intro ys k; simp

def cSat (x : Sat) : Nat := 4

theorem mh_SatS : MH L_markSatS L_heldSatS (sumC cSat) (okL NM (fun (_ : Sat) => True)) := by
  unfold L_markSatS L_heldSatS
  refine mh_list cSat (fun (_ : Sat) => True) (fun y k m => y = ⟨k, k + 1, k + 1 + 1, k + 1 + 1 + 1⟩ ∧ 0 ≤ k ∧ k + 4 ≤ BB ∧ m = k + 1 + 1 + 1 + 1) ?_ ?_ ?_ ?_
  · intro xs k i x hx hok hk hc hi
    have hlt := lt_of_get hx
    simp only [BB, cSat] at hc hi ⊢
    refine ⟨⟨k, k + 1, k + 1 + 1, k + 1 + 1 + 1⟩, ?_, rfl, hk, by omega, by omega⟩
    simp (disch := omega) only [rdI_at hx, rdI_set hx, hlt, W_id, Int.toNat_natCast, List.set_set, decide_true, cond_true, Option.bind_some, Int.ofNat_lt]
    try (simp only [Option.some.injEq, Sum.inl.injEq, Prod.mk.injEq, true_and, and_true]; omega)
  · intro xs k; simp
  · rintro ys i y k m hy ⟨rfl, hk, hc, rfl⟩ hi
    have hlt := lt_of_get hy
    simp only [BB] at hc hi
    simp (disch := omega) only [rdI_at hy, hlt, W_id, decide_true, cond_true, Option.bind_some, Int.ofNat_lt, BEq.rfl, Bool.not_true, cond_false]
  · intro ys k; simp

def cSite (x : Site) : Nat := 3

theorem mh_SiteS : MH L_markSiteS L_heldSiteS (sumC cSite) (okL NM (fun (_ : Site) => True)) := by
  unfold L_markSiteS L_heldSiteS
  refine mh_list cSite (fun (_ : Site) => True) (fun y k m => y = ⟨k, k + 1, k + 1 + 1⟩ ∧ 0 ≤ k ∧ k + 3 ≤ BB ∧ m = k + 1 + 1 + 1) ?_ ?_ ?_ ?_
  · intro xs k i x hx hok hk hc hi
    have hlt := lt_of_get hx
    simp only [BB, cSite] at hc hi ⊢
    refine ⟨⟨k, k + 1, k + 1 + 1⟩, ?_, rfl, hk, by omega, by omega⟩
    simp (disch := omega) only [rdI_at hx, rdI_set hx, hlt, W_id, Int.toNat_natCast, List.set_set, decide_true, cond_true, Option.bind_some, Int.ofNat_lt]
    try (simp only [Option.some.injEq, Sum.inl.injEq, Prod.mk.injEq, true_and, and_true]; omega)
  · intro xs k; simp
  · rintro ys i y k m hy ⟨rfl, hk, hc, rfl⟩ hi
    have hlt := lt_of_get hy
    simp only [BB] at hc hi
    simp (disch := omega) only [rdI_at hy, hlt, W_id, decide_true, cond_true, Option.bind_some, Int.ofNat_lt, BEq.rfl, Bool.not_true, cond_false]
  · intro ys k; simp

def cZone (x : Zone) : Nat := 3

theorem mh_ZoneS : MH L_markZoneS L_heldZoneS (sumC cZone) (okL NM (fun (_ : Zone) => True)) := by
  unfold L_markZoneS L_heldZoneS
  refine mh_list cZone (fun (_ : Zone) => True) (fun y k m => y = ⟨k, ⟨k + 1, k + 1 + 1⟩⟩ ∧ 0 ≤ k ∧ k + 3 ≤ BB ∧ m = k + 1 + 1 + 1) ?_ ?_ ?_ ?_
  · intro xs k i x hx hok hk hc hi
    have hlt := lt_of_get hx
    simp only [BB, cZone] at hc hi ⊢
    refine ⟨⟨k, ⟨k + 1, k + 1 + 1⟩⟩, ?_, rfl, hk, by omega, by omega⟩
    simp (disch := omega) only [rdI_at hx, rdI_set hx, hlt, W_id, Int.toNat_natCast, List.set_set, decide_true, cond_true, Option.bind_some, Int.ofNat_lt]
    try (simp only [Option.some.injEq, Sum.inl.injEq, Prod.mk.injEq, true_and, and_true]; omega)
  · intro xs k; simp
  · rintro ys i y k m hy ⟨rfl, hk, hc, rfl⟩ hi
    have hlt := lt_of_get hy
    simp only [BB] at hc hi
    simp (disch := omega) only [rdI_at hy, hlt, W_id, decide_true, cond_true, Option.bind_some, Int.ofNat_lt, BEq.rfl, Bool.not_true, cond_false]
  · intro ys k; simp

def cSky (x : Sky) : Nat := sumC cSat x.Sats + sumC cSite x.Sites + sumC cZone x.Zones
theorem cSky_le (x : Sky) (h : okSky NM x) : cSky x ≤ 10485920 := by
  obtain ⟨hSats, hSites, hZones, _⟩ := h
  have kSats := sumC_le (c := cSat) (m := 4) x.Sats (fun _ _ => Nat.le_refl _)
  have lSats := hSats.1
  simp only [NM] at lSats
  have qSats : x.Sats.length * 4 ≤ 1048592 * 4 := Nat.mul_le_mul_right _ (by omega)
  have kSites := sumC_le (c := cSite) (m := 3) x.Sites (fun _ _ => Nat.le_refl _)
  have lSites := hSites.1
  simp only [NM] at lSites
  have qSites : x.Sites.length * 3 ≤ 1048592 * 3 := Nat.mul_le_mul_right _ (by omega)
  have kZones := sumC_le (c := cZone) (m := 3) x.Zones (fun _ _ => Nat.le_refl _)
  have lZones := hZones.1
  simp only [NM] at lZones
  have qZones : x.Zones.length * 3 ≤ 1048592 * 3 := Nat.mul_le_mul_right _ (by omega)
  simp only [cSky]
  omega
theorem mh_Sky : MH L_markSky L_heldSky cSky (okSky NM) := by
  rintro x k ⟨hSats, hSites, hZones, _⟩ hk hc
  simp only [cSky] at hc
  obtain ⟨DSats, hmSats, hhSats⟩ := mh_SatS x.Sats (k) hSats (by omega) (by omega)
  obtain ⟨DSites, hmSites, hhSites⟩ := mh_SiteS x.Sites (k + (sumC cSat x.Sats : Nat)) hSites (by omega) (by omega)
  obtain ⟨DZones, hmZones, hhZones⟩ := mh_ZoneS x.Zones (k + (sumC cSat x.Sats : Nat) + (sumC cSite x.Sites : Nat)) hZones (by omega) (by omega)
  refine ⟨{ x with Sats := DSats, Sites := DSites, Zones := DZones }, ?_, ?_⟩
  · simp only [L_markSky, cSky, Option.bind_some, hmSats, hmSites, hmZones]
    try (simp only [Option.some.injEq, Prod.mk.injEq, true_and]; omega)
  · simp (disch := omega) only [L_heldSky, cSky, Option.bind_some, cond_false, dec_neg, hhSats, hhSites, hhZones]
    try (simp only [Option.some.injEq]; omega)

def cLink (x : Link) : Nat := 2

theorem mh_LinkS : MH L_markLinkS L_heldLinkS (sumC cLink) (okL NM (fun (_ : Link) => True)) := by
  unfold L_markLinkS L_heldLinkS
  refine mh_list cLink (fun (_ : Link) => True) (fun y k m => y = ⟨k, k + 1⟩ ∧ 0 ≤ k ∧ k + 2 ≤ BB ∧ m = k + 1 + 1) ?_ ?_ ?_ ?_
  · intro xs k i x hx hok hk hc hi
    have hlt := lt_of_get hx
    simp only [BB, cLink] at hc hi ⊢
    refine ⟨⟨k, k + 1⟩, ?_, rfl, hk, by omega, by omega⟩
    simp (disch := omega) only [rdI_at hx, rdI_set hx, hlt, W_id, Int.toNat_natCast, List.set_set, decide_true, cond_true, Option.bind_some, Int.ofNat_lt]
    try (simp only [Option.some.injEq, Sum.inl.injEq, Prod.mk.injEq, true_and, and_true]; omega)
  · intro xs k; simp
  · rintro ys i y k m hy ⟨rfl, hk, hc, rfl⟩ hi
    have hlt := lt_of_get hy
    simp only [BB] at hc hi
    simp (disch := omega) only [rdI_at hy, hlt, W_id, decide_true, cond_true, Option.bind_some, Int.ofNat_lt, BEq.rfl, Bool.not_true, cond_false]
  · intro ys k; simp

def cTable (x : Table) : Nat := 1 + sumC (fun (_ : Int) => 1) x.Dist + sumC (fun (_ : Int) => 1) x.Next
theorem cTable_le (x : Table) (h : okTable NM x) : cTable x ≤ 2097185 := by
  obtain ⟨hDist, hNext, _⟩ := h
  have kDist := sumC_le (c := (fun (_ : Int) => 1)) (m := 1) x.Dist (fun _ _ => Nat.le_refl _)
  have lDist := hDist.1
  simp only [NM] at lDist
  have qDist : x.Dist.length * 1 ≤ 1048592 * 1 := Nat.mul_le_mul_right _ (by omega)
  have kNext := sumC_le (c := (fun (_ : Int) => 1)) (m := 1) x.Next (fun _ _ => Nat.le_refl _)
  have lNext := hNext.1
  simp only [NM] at lNext
  have qNext : x.Next.length * 1 ≤ 1048592 * 1 := Nat.mul_le_mul_right _ (by omega)
  simp only [cTable]
  omega

theorem mh_TableS : MH L_markTableS L_heldTableS (sumC cTable) (okL NM (okTable NM)) := by
  unfold L_markTableS L_heldTableS
  refine mh_list cTable (okTable NM) (fun y k m => ∃ (DDist : List Int) (DNext : List Int) (mDist : Int) (mNext : Int), y = ⟨k, DDist, DNext⟩ ∧ 0 ≤ k ∧ k + 1 ≤ BB ∧ L_heldIntS DDist (k + 1) = some mDist ∧ 0 ≤ mDist ∧ L_heldIntS DNext (mDist) = some mNext ∧ 0 ≤ mNext ∧ m = mNext) ?_ ?_ ?_ ?_
  · intro xs k i x hx hok hk hc hi
    have hlt := lt_of_get hx
    simp only [BB, cTable] at hc hi ⊢
    obtain ⟨hDist, hNext, _⟩ := hok
    obtain ⟨DDist, hmDist, hhDist⟩ := mh_IntS x.Dist (k + 1) hDist (by omega) (by simp only [BB]; omega)
    obtain ⟨DNext, hmNext, hhNext⟩ := mh_IntS x.Next ((k + 1) + (sumC (fun (_ : Int) => 1) x.Dist : Nat)) hNext (by omega) (by simp only [BB]; omega)
    refine ⟨⟨k, DDist, DNext⟩, ?_, DDist, DNext, _, _, rfl, hk, by omega, hhDist, by omega, hhNext, by omega, by omega⟩
    simp (disch := omega) only [rdI_at hx, rdI_set hx, hlt, W_id, Int.toNat_natCast, List.set_set, decide_true, cond_true, Option.bind_some, Int.ofNat_lt, hmDist, hmNext]
    try (simp only [Option.some.injEq, Sum.inl.injEq, Prod.mk.injEq, true_and, and_true]; omega)
  · intro xs k; simp
  · rintro ys i y k m hy ⟨DDist, DNext, mDist, mNext, rfl, hk, hc, hhDist, hpDist, hhNext, hpNext, rfl⟩ hi
    have hlt := lt_of_get hy
    simp only [BB] at hc hi
    simp (disch := omega) only [rdI_at hy, hlt, W_id, decide_true, cond_true, Option.bind_some, Int.ofNat_lt, BEq.rfl, Bool.not_true, cond_false, hhDist, hhNext, dec_neg]
  · intro ys k; simp

def cPiece (x : Piece) : Nat := 2 + sumC cLink x.Links + sumC cTable x.Tables
theorem cPiece_le (x : Piece) (h : okPiece NM x) : cPiece x ≤ 2199093510706 := by
  obtain ⟨hLinks, hTables, _⟩ := h
  have kLinks := sumC_le (c := cLink) (m := 2) x.Links (fun _ _ => Nat.le_refl _)
  have lLinks := hLinks.1
  simp only [NM] at lLinks
  have qLinks : x.Links.length * 2 ≤ 1048592 * 2 := Nat.mul_le_mul_right _ (by omega)
  have kTables := sumC_le (c := cTable) (m := 2097185) x.Tables (fun y hy => cTable_le y (hTables.2 y hy))
  have lTables := hTables.1
  simp only [NM] at lTables
  have qTables : x.Tables.length * 2097185 ≤ 1048592 * 2097185 := Nat.mul_le_mul_right _ (by omega)
  simp only [cPiece]
  omega

theorem mh_PieceS : MH L_markPieceS L_heldPieceS (sumC cPiece) (okL NM (okPiece NM)) := by
  unfold L_markPieceS L_heldPieceS
  refine mh_list cPiece (okPiece NM) (fun y k m => ∃ (DLinks : List Link) (DTables : List Table) (mLinks : Int) (mTables : Int), y = ⟨⟨k, k + 1⟩, DLinks, DTables⟩ ∧ 0 ≤ k ∧ k + 2 ≤ BB ∧ L_heldLinkS DLinks (k + 1 + 1) = some mLinks ∧ 0 ≤ mLinks ∧ L_heldTableS DTables (mLinks) = some mTables ∧ 0 ≤ mTables ∧ m = mTables) ?_ ?_ ?_ ?_
  · intro xs k i x hx hok hk hc hi
    have hlt := lt_of_get hx
    simp only [BB, cPiece] at hc hi ⊢
    obtain ⟨hLinks, hTables, _⟩ := hok
    obtain ⟨DLinks, hmLinks, hhLinks⟩ := mh_LinkS x.Links (k + 1 + 1) hLinks (by omega) (by simp only [BB]; omega)
    obtain ⟨DTables, hmTables, hhTables⟩ := mh_TableS x.Tables ((k + 1 + 1) + (sumC cLink x.Links : Nat)) hTables (by omega) (by simp only [BB]; omega)
    refine ⟨⟨⟨k, k + 1⟩, DLinks, DTables⟩, ?_, DLinks, DTables, _, _, rfl, hk, by omega, hhLinks, by omega, hhTables, by omega, by omega⟩
    simp (disch := omega) only [rdI_at hx, rdI_set hx, hlt, W_id, Int.toNat_natCast, List.set_set, decide_true, cond_true, Option.bind_some, Int.ofNat_lt, hmLinks, hmTables]
    try (simp only [Option.some.injEq, Sum.inl.injEq, Prod.mk.injEq, true_and, and_true]; omega)
  · intro xs k; simp
  · rintro ys i y k m hy ⟨DLinks, DTables, mLinks, mTables, rfl, hk, hc, hhLinks, hpLinks, hhTables, hpTables, rfl⟩ hi
    have hlt := lt_of_get hy
    simp only [BB] at hc hi
    simp (disch := omega) only [rdI_at hy, hlt, W_id, decide_true, cond_true, Option.bind_some, Int.ofNat_lt, BEq.rfl, Bool.not_true, cond_false, hhLinks, hhTables, dec_neg]
  · intro ys k; simp

def cProgram (x : Prog) : Nat := sumC cPiece x.Pieces
theorem cProgram_le (x : Prog) (h : okProgram NM x) : cProgram x ≤ 2305951862578225952 := by
  obtain ⟨hPieces, _⟩ := h
  have kPieces := sumC_le (c := cPiece) (m := 2199093510706) x.Pieces (fun y hy => cPiece_le y (hPieces.2 y hy))
  have lPieces := hPieces.1
  simp only [NM] at lPieces
  have qPieces : x.Pieces.length * 2199093510706 ≤ 1048592 * 2199093510706 := Nat.mul_le_mul_right _ (by omega)
  simp only [cProgram]
  omega
theorem mh_Program : MH L_markProgram L_heldProgram cProgram (okProgram NM) := by
  rintro x k ⟨hPieces, _⟩ hk hc
  simp only [cProgram] at hc
  obtain ⟨DPieces, hmPieces, hhPieces⟩ := mh_PieceS x.Pieces (k) hPieces (by omega) (by omega)
  refine ⟨{ x with Pieces := DPieces }, ?_, ?_⟩
  · simp only [L_markProgram, cProgram, Option.bind_some, hmPieces]
    try (simp only [Option.some.injEq, Prod.mk.injEq, true_and]; omega)
  · simp (disch := omega) only [L_heldProgram, cProgram, Option.bind_some, cond_false, dec_neg, hhPieces]
    try (simp only [Option.some.injEq]; omega)

def cLaw (x : Law) : Nat := sumC (fun (_ : Int) => 1) x.Allowed
theorem cLaw_le (x : Law) (h : okLaw NM x) : cLaw x ≤ 1048592 := by
  obtain ⟨hAllowed, _⟩ := h
  have kAllowed := sumC_le (c := (fun (_ : Int) => 1)) (m := 1) x.Allowed (fun _ _ => Nat.le_refl _)
  have lAllowed := hAllowed.1
  simp only [NM] at lAllowed
  have qAllowed : x.Allowed.length * 1 ≤ 1048592 * 1 := Nat.mul_le_mul_right _ (by omega)
  simp only [cLaw]
  omega
theorem mh_Law : MH L_markLaw L_heldLaw cLaw (okLaw NM) := by
  rintro x k ⟨hAllowed, _⟩ hk hc
  simp only [cLaw] at hc
  obtain ⟨DAllowed, hmAllowed, hhAllowed⟩ := mh_IntS x.Allowed (k) hAllowed (by omega) (by omega)
  refine ⟨{ x with Allowed := DAllowed }, ?_, ?_⟩
  · simp only [L_markLaw, cLaw, Option.bind_some, hmAllowed]
    try (simp only [Option.some.injEq, Prod.mk.injEq, true_and]; omega)
  · simp (disch := omega) only [L_heldLaw, cLaw, Option.bind_some, cond_false, dec_neg, hhAllowed]
    try (simp only [Option.some.injEq]; omega)

def cBattery (x : Battery) : Nat := 6

theorem mh_BatteryS : MH L_markBatteryS L_heldBatteryS (sumC cBattery) (okL NM (fun (_ : Battery) => True)) := by
  unfold L_markBatteryS L_heldBatteryS
  refine mh_list cBattery (fun (_ : Battery) => True) (fun y k m => y = ⟨k, k + 1, k + 1 + 1, k + 1 + 1 + 1, k + 1 + 1 + 1 + 1, k + 1 + 1 + 1 + 1 + 1⟩ ∧ 0 ≤ k ∧ k + 6 ≤ BB ∧ m = k + 1 + 1 + 1 + 1 + 1 + 1) ?_ ?_ ?_ ?_
  · intro xs k i x hx hok hk hc hi
    have hlt := lt_of_get hx
    simp only [BB, cBattery] at hc hi ⊢
    refine ⟨⟨k, k + 1, k + 1 + 1, k + 1 + 1 + 1, k + 1 + 1 + 1 + 1, k + 1 + 1 + 1 + 1 + 1⟩, ?_, rfl, hk, by omega, by omega⟩
    simp (disch := omega) only [rdI_at hx, rdI_set hx, hlt, W_id, Int.toNat_natCast, List.set_set, decide_true, cond_true, Option.bind_some, Int.ofNat_lt]
    try (simp only [Option.some.injEq, Sum.inl.injEq, Prod.mk.injEq, true_and, and_true]; omega)
  · intro xs k; simp
  · rintro ys i y k m hy ⟨rfl, hk, hc, rfl⟩ hi
    have hlt := lt_of_get hy
    simp only [BB] at hc hi
    simp (disch := omega) only [rdI_at hy, hlt, W_id, decide_true, cond_true, Option.bind_some, Int.ofNat_lt, BEq.rfl, Bool.not_true, cond_false]
  · intro ys k; simp

def cPacket (x : Packet) : Nat := 6

theorem mh_PacketS : MH L_markPacketS L_heldPacketS (sumC cPacket) (okL NM (fun (_ : Packet) => True)) := by
  unfold L_markPacketS L_heldPacketS
  refine mh_list cPacket (fun (_ : Packet) => True) (fun y k m => y = ⟨k, k + 1, k + 1 + 1, k + 1 + 1 + 1, k + 1 + 1 + 1 + 1, k + 1 + 1 + 1 + 1 + 1⟩ ∧ 0 ≤ k ∧ k + 6 ≤ BB ∧ m = k + 1 + 1 + 1 + 1 + 1 + 1) ?_ ?_ ?_ ?_
  · intro xs k i x hx hok hk hc hi
    have hlt := lt_of_get hx
    simp only [BB, cPacket] at hc hi ⊢
    refine ⟨⟨k, k + 1, k + 1 + 1, k + 1 + 1 + 1, k + 1 + 1 + 1 + 1, k + 1 + 1 + 1 + 1 + 1⟩, ?_, rfl, hk, by omega, by omega⟩
    simp (disch := omega) only [rdI_at hx, rdI_set hx, hlt, W_id, Int.toNat_natCast, List.set_set, decide_true, cond_true, Option.bind_some, Int.ofNat_lt]
    try (simp only [Option.some.injEq, Sum.inl.injEq, Prod.mk.injEq, true_and, and_true]; omega)
  · intro xs k; simp
  · rintro ys i y k m hy ⟨rfl, hk, hc, rfl⟩ hi
    have hlt := lt_of_get hy
    simp only [BB] at hc hi
    simp (disch := omega) only [rdI_at hy, hlt, W_id, decide_true, cond_true, Option.bind_some, Int.ofNat_lt, BEq.rfl, Bool.not_true, cond_false]
  · intro ys k; simp

def cQueue (x : Queue) : Nat := sumC cPacket x.Items
theorem cQueue_le (x : Queue) (h : okQueue NM x) : cQueue x ≤ 6291552 := by
  obtain ⟨hItems, _⟩ := h
  have kItems := sumC_le (c := cPacket) (m := 6) x.Items (fun _ _ => Nat.le_refl _)
  have lItems := hItems.1
  simp only [NM] at lItems
  have qItems : x.Items.length * 6 ≤ 1048592 * 6 := Nat.mul_le_mul_right _ (by omega)
  simp only [cQueue]
  omega

theorem mh_QueueS : MH L_markQueueS L_heldQueueS (sumC cQueue) (okL NM (okQueue NM)) := by
  unfold L_markQueueS L_heldQueueS
  refine mh_list cQueue (okQueue NM) (fun y k m => ∃ (DItems : List Packet) (mItems : Int), y = ⟨DItems⟩ ∧ 0 ≤ k ∧ k + 0 ≤ BB ∧ L_heldPacketS DItems (k) = some mItems ∧ 0 ≤ mItems ∧ m = mItems) ?_ ?_ ?_ ?_
  · intro xs k i x hx hok hk hc hi
    have hlt := lt_of_get hx
    simp only [BB, cQueue] at hc hi ⊢
    obtain ⟨hItems, _⟩ := hok
    obtain ⟨DItems, hmItems, hhItems⟩ := mh_PacketS x.Items (k) hItems (by omega) (by simp only [BB]; omega)
    refine ⟨⟨DItems⟩, ?_, DItems, _, rfl, hk, by omega, hhItems, by omega, by omega⟩
    simp (disch := omega) only [rdI_at hx, rdI_set hx, hlt, W_id, Int.toNat_natCast, List.set_set, decide_true, cond_true, Option.bind_some, Int.ofNat_lt, hmItems]
    try (simp only [Option.some.injEq, Sum.inl.injEq, Prod.mk.injEq, true_and, and_true]; omega)
  · intro xs k; simp
  · rintro ys i y k m hy ⟨DItems, mItems, rfl, hk, hc, hhItems, hpItems, rfl⟩ hi
    have hlt := lt_of_get hy
    simp only [BB] at hc hi
    simp (disch := omega) only [rdI_at hy, hlt, W_id, decide_true, cond_true, Option.bind_some, Int.ofNat_lt, BEq.rfl, Bool.not_true, cond_false, hhItems, dec_neg]
  · intro ys k; simp

def cFlow (x : Flow) : Nat := 4

theorem mh_FlowS : MH L_markFlowS L_heldFlowS (sumC cFlow) (okL NM (fun (_ : Flow) => True)) := by
  unfold L_markFlowS L_heldFlowS
  refine mh_list cFlow (fun (_ : Flow) => True) (fun y k m => y = ⟨k, k + 1, k + 1 + 1, k + 1 + 1 + 1⟩ ∧ 0 ≤ k ∧ k + 4 ≤ BB ∧ m = k + 1 + 1 + 1 + 1) ?_ ?_ ?_ ?_
  · intro xs k i x hx hok hk hc hi
    have hlt := lt_of_get hx
    simp only [BB, cFlow] at hc hi ⊢
    refine ⟨⟨k, k + 1, k + 1 + 1, k + 1 + 1 + 1⟩, ?_, rfl, hk, by omega, by omega⟩
    simp (disch := omega) only [rdI_at hx, rdI_set hx, hlt, W_id, Int.toNat_natCast, List.set_set, decide_true, cond_true, Option.bind_some, Int.ofNat_lt]
    try (simp only [Option.some.injEq, Sum.inl.injEq, Prod.mk.injEq, true_and, and_true]; omega)
  · intro xs k; simp
  · rintro ys i y k m hy ⟨rfl, hk, hc, rfl⟩ hi
    have hlt := lt_of_get hy
    simp only [BB] at hc hi
    simp (disch := omega) only [rdI_at hy, hlt, W_id, decide_true, cond_true, Option.bind_some, Int.ofNat_lt, BEq.rfl, Bool.not_true, cond_false]
  · intro ys k; simp

def cStream (x : Stream) : Nat := 2 + sumC (fun (_ : Int) => 1) x.Kept
theorem cStream_le (x : Stream) (h : okStream NM x) : cStream x ≤ 1048594 := by
  obtain ⟨hKept, _⟩ := h
  have kKept := sumC_le (c := (fun (_ : Int) => 1)) (m := 1) x.Kept (fun _ _ => Nat.le_refl _)
  have lKept := hKept.1
  simp only [NM] at lKept
  have qKept : x.Kept.length * 1 ≤ 1048592 * 1 := Nat.mul_le_mul_right _ (by omega)
  simp only [cStream]
  omega

theorem mh_StreamS : MH L_markStreamS L_heldStreamS (sumC cStream) (okL NM (okStream NM)) := by
  unfold L_markStreamS L_heldStreamS
  refine mh_list cStream (okStream NM) (fun y k m => ∃ (DKept : List Int) (mKept : Int), y = ⟨k, k + 1, DKept⟩ ∧ 0 ≤ k ∧ k + 2 ≤ BB ∧ L_heldIntS DKept (k + 1 + 1) = some mKept ∧ 0 ≤ mKept ∧ m = mKept) ?_ ?_ ?_ ?_
  · intro xs k i x hx hok hk hc hi
    have hlt := lt_of_get hx
    simp only [BB, cStream] at hc hi ⊢
    obtain ⟨hKept, _⟩ := hok
    obtain ⟨DKept, hmKept, hhKept⟩ := mh_IntS x.Kept (k + 1 + 1) hKept (by omega) (by simp only [BB]; omega)
    refine ⟨⟨k, k + 1, DKept⟩, ?_, DKept, _, rfl, hk, by omega, hhKept, by omega, by omega⟩
    simp (disch := omega) only [rdI_at hx, rdI_set hx, hlt, W_id, Int.toNat_natCast, List.set_set, decide_true, cond_true, Option.bind_some, Int.ofNat_lt, hmKept]
    try (simp only [Option.some.injEq, Sum.inl.injEq, Prod.mk.injEq, true_and, and_true]; omega)
  · intro xs k; simp
  · rintro ys i y k m hy ⟨DKept, mKept, rfl, hk, hc, hhKept, hpKept, rfl⟩ hi
    have hlt := lt_of_get hy
    simp only [BB] at hc hi
    simp (disch := omega) only [rdI_at hy, hlt, W_id, decide_true, cond_true, Option.bind_some, Int.ofNat_lt, BEq.rfl, Bool.not_true, cond_false, hhKept, dec_neg]
  · intro ys k; simp

def cFault (x : Fault) : Nat := 4

theorem mh_FaultS : MH L_markFaultS L_heldFaultS (sumC cFault) (okL NM (fun (_ : Fault) => True)) := by
  unfold L_markFaultS L_heldFaultS
  refine mh_list cFault (fun (_ : Fault) => True) (fun y k m => y = ⟨k, k + 1, k + 1 + 1, k + 1 + 1 + 1⟩ ∧ 0 ≤ k ∧ k + 4 ≤ BB ∧ m = k + 1 + 1 + 1 + 1) ?_ ?_ ?_ ?_
  · intro xs k i x hx hok hk hc hi
    have hlt := lt_of_get hx
    simp only [BB, cFault] at hc hi ⊢
    refine ⟨⟨k, k + 1, k + 1 + 1, k + 1 + 1 + 1⟩, ?_, rfl, hk, by omega, by omega⟩
    simp (disch := omega) only [rdI_at hx, rdI_set hx, hlt, W_id, Int.toNat_natCast, List.set_set, decide_true, cond_true, Option.bind_some, Int.ofNat_lt]
    try (simp only [Option.some.injEq, Sum.inl.injEq, Prod.mk.injEq, true_and, and_true]; omega)
  · intro xs k; simp
  · rintro ys i y k m hy ⟨rfl, hk, hc, rfl⟩ hi
    have hlt := lt_of_get hy
    simp only [BB] at hc hi
    simp (disch := omega) only [rdI_at hy, hlt, W_id, decide_true, cond_true, Option.bind_some, Int.ofNat_lt, BEq.rfl, Bool.not_true, cond_false]
  · intro ys k; simp

def cSent (x : Sent) : Nat := 4

theorem mh_SentS : MH L_markSentS L_heldSentS (sumC cSent) (okL NM (fun (_ : Sent) => True)) := by
  unfold L_markSentS L_heldSentS
  refine mh_list cSent (fun (_ : Sent) => True) (fun y k m => y = ⟨k, k + 1, k + 1 + 1, k + 1 + 1 + 1⟩ ∧ 0 ≤ k ∧ k + 4 ≤ BB ∧ m = k + 1 + 1 + 1 + 1) ?_ ?_ ?_ ?_
  · intro xs k i x hx hok hk hc hi
    have hlt := lt_of_get hx
    simp only [BB, cSent] at hc hi ⊢
    refine ⟨⟨k, k + 1, k + 1 + 1, k + 1 + 1 + 1⟩, ?_, rfl, hk, by omega, by omega⟩
    simp (disch := omega) only [rdI_at hx, rdI_set hx, hlt, W_id, Int.toNat_natCast, List.set_set, decide_true, cond_true, Option.bind_some, Int.ofNat_lt]
    try (simp only [Option.some.injEq, Sum.inl.injEq, Prod.mk.injEq, true_and, and_true]; omega)
  · intro xs k; simp
  · rintro ys i y k m hy ⟨rfl, hk, hc, rfl⟩ hi
    have hlt := lt_of_get hy
    simp only [BB] at hc hi
    simp (disch := omega) only [rdI_at hy, hlt, W_id, decide_true, cond_true, Option.bind_some, Int.ofNat_lt, BEq.rfl, Bool.not_true, cond_false]
  · intro ys k; simp

def cWorld (x : Wd) : Nat := cSky x.Sky + cProgram x.Program + cLaw x.Law + sumC (fun (_ : Int) => 1) x.Offsets + sumC cBattery x.Batteries + sumC cQueue x.Queues + sumC cFlow x.Flows + sumC (fun (_ : Int) => 1) x.Counts + sumC cStream x.Streams + sumC cFault x.Faults + sumC cPacket x.Done + sumC cSent x.Log
theorem cWorld_le (x : Wd) (h : okWorld NM x) : cWorld x ≤ 2305959559435398288 := by
  obtain ⟨hSky, hProgram, hLaw, hOffsets, hBatteries, hQueues, hFlows, hCounts, hStreams, hFaults, hDone, hLog, _⟩ := h
  have kSky := cSky_le x.Sky hSky
  have kProgram := cProgram_le x.Program hProgram
  have kLaw := cLaw_le x.Law hLaw
  have kOffsets := sumC_le (c := (fun (_ : Int) => 1)) (m := 1) x.Offsets (fun _ _ => Nat.le_refl _)
  have lOffsets := hOffsets.1
  simp only [NM] at lOffsets
  have qOffsets : x.Offsets.length * 1 ≤ 1048592 * 1 := Nat.mul_le_mul_right _ (by omega)
  have kBatteries := sumC_le (c := cBattery) (m := 6) x.Batteries (fun _ _ => Nat.le_refl _)
  have lBatteries := hBatteries.1
  simp only [NM] at lBatteries
  have qBatteries : x.Batteries.length * 6 ≤ 1048592 * 6 := Nat.mul_le_mul_right _ (by omega)
  have kQueues := sumC_le (c := cQueue) (m := 6291552) x.Queues (fun y hy => cQueue_le y (hQueues.2 y hy))
  have lQueues := hQueues.1
  simp only [NM] at lQueues
  have qQueues : x.Queues.length * 6291552 ≤ 1048592 * 6291552 := Nat.mul_le_mul_right _ (by omega)
  have kFlows := sumC_le (c := cFlow) (m := 4) x.Flows (fun _ _ => Nat.le_refl _)
  have lFlows := hFlows.1
  simp only [NM] at lFlows
  have qFlows : x.Flows.length * 4 ≤ 1048592 * 4 := Nat.mul_le_mul_right _ (by omega)
  have kCounts := sumC_le (c := (fun (_ : Int) => 1)) (m := 1) x.Counts (fun _ _ => Nat.le_refl _)
  have lCounts := hCounts.1
  simp only [NM] at lCounts
  have qCounts : x.Counts.length * 1 ≤ 1048592 * 1 := Nat.mul_le_mul_right _ (by omega)
  have kStreams := sumC_le (c := cStream) (m := 1048594) x.Streams (fun y hy => cStream_le y (hStreams.2 y hy))
  have lStreams := hStreams.1
  simp only [NM] at lStreams
  have qStreams : x.Streams.length * 1048594 ≤ 1048592 * 1048594 := Nat.mul_le_mul_right _ (by omega)
  have kFaults := sumC_le (c := cFault) (m := 4) x.Faults (fun _ _ => Nat.le_refl _)
  have lFaults := hFaults.1
  simp only [NM] at lFaults
  have qFaults : x.Faults.length * 4 ≤ 1048592 * 4 := Nat.mul_le_mul_right _ (by omega)
  have kDone := sumC_le (c := cPacket) (m := 6) x.Done (fun _ _ => Nat.le_refl _)
  have lDone := hDone.1
  simp only [NM] at lDone
  have qDone : x.Done.length * 6 ≤ 1048592 * 6 := Nat.mul_le_mul_right _ (by omega)
  have kLog := sumC_le (c := cSent) (m := 4) x.Log (fun _ _ => Nat.le_refl _)
  have lLog := hLog.1
  simp only [NM] at lLog
  have qLog : x.Log.length * 4 ≤ 1048592 * 4 := Nat.mul_le_mul_right _ (by omega)
  simp only [cWorld]
  omega
theorem mh_World : MH L_markWorld L_heldWorld cWorld (okWorld NM) := by
  rintro x k ⟨hSky, hProgram, hLaw, hOffsets, hBatteries, hQueues, hFlows, hCounts, hStreams, hFaults, hDone, hLog, _⟩ hk hc
  simp only [cWorld] at hc
  obtain ⟨DSky, hmSky, hhSky⟩ := mh_Sky x.Sky (k) hSky (by omega) (by omega)
  obtain ⟨DProgram, hmProgram, hhProgram⟩ := mh_Program x.Program (k + (cSky x.Sky : Nat)) hProgram (by omega) (by omega)
  obtain ⟨DLaw, hmLaw, hhLaw⟩ := mh_Law x.Law (k + (cSky x.Sky : Nat) + (cProgram x.Program : Nat)) hLaw (by omega) (by omega)
  obtain ⟨DOffsets, hmOffsets, hhOffsets⟩ := mh_IntS x.Offsets (k + (cSky x.Sky : Nat) + (cProgram x.Program : Nat) + (cLaw x.Law : Nat)) hOffsets (by omega) (by omega)
  obtain ⟨DBatteries, hmBatteries, hhBatteries⟩ := mh_BatteryS x.Batteries (k + (cSky x.Sky : Nat) + (cProgram x.Program : Nat) + (cLaw x.Law : Nat) + (sumC (fun (_ : Int) => 1) x.Offsets : Nat)) hBatteries (by omega) (by omega)
  obtain ⟨DQueues, hmQueues, hhQueues⟩ := mh_QueueS x.Queues (k + (cSky x.Sky : Nat) + (cProgram x.Program : Nat) + (cLaw x.Law : Nat) + (sumC (fun (_ : Int) => 1) x.Offsets : Nat) + (sumC cBattery x.Batteries : Nat)) hQueues (by omega) (by omega)
  obtain ⟨DFlows, hmFlows, hhFlows⟩ := mh_FlowS x.Flows (k + (cSky x.Sky : Nat) + (cProgram x.Program : Nat) + (cLaw x.Law : Nat) + (sumC (fun (_ : Int) => 1) x.Offsets : Nat) + (sumC cBattery x.Batteries : Nat) + (sumC cQueue x.Queues : Nat)) hFlows (by omega) (by omega)
  obtain ⟨DCounts, hmCounts, hhCounts⟩ := mh_IntS x.Counts (k + (cSky x.Sky : Nat) + (cProgram x.Program : Nat) + (cLaw x.Law : Nat) + (sumC (fun (_ : Int) => 1) x.Offsets : Nat) + (sumC cBattery x.Batteries : Nat) + (sumC cQueue x.Queues : Nat) + (sumC cFlow x.Flows : Nat)) hCounts (by omega) (by omega)
  obtain ⟨DStreams, hmStreams, hhStreams⟩ := mh_StreamS x.Streams (k + (cSky x.Sky : Nat) + (cProgram x.Program : Nat) + (cLaw x.Law : Nat) + (sumC (fun (_ : Int) => 1) x.Offsets : Nat) + (sumC cBattery x.Batteries : Nat) + (sumC cQueue x.Queues : Nat) + (sumC cFlow x.Flows : Nat) + (sumC (fun (_ : Int) => 1) x.Counts : Nat)) hStreams (by omega) (by omega)
  obtain ⟨DFaults, hmFaults, hhFaults⟩ := mh_FaultS x.Faults (k + (cSky x.Sky : Nat) + (cProgram x.Program : Nat) + (cLaw x.Law : Nat) + (sumC (fun (_ : Int) => 1) x.Offsets : Nat) + (sumC cBattery x.Batteries : Nat) + (sumC cQueue x.Queues : Nat) + (sumC cFlow x.Flows : Nat) + (sumC (fun (_ : Int) => 1) x.Counts : Nat) + (sumC cStream x.Streams : Nat)) hFaults (by omega) (by omega)
  obtain ⟨DDone, hmDone, hhDone⟩ := mh_PacketS x.Done (k + (cSky x.Sky : Nat) + (cProgram x.Program : Nat) + (cLaw x.Law : Nat) + (sumC (fun (_ : Int) => 1) x.Offsets : Nat) + (sumC cBattery x.Batteries : Nat) + (sumC cQueue x.Queues : Nat) + (sumC cFlow x.Flows : Nat) + (sumC (fun (_ : Int) => 1) x.Counts : Nat) + (sumC cStream x.Streams : Nat) + (sumC cFault x.Faults : Nat)) hDone (by omega) (by omega)
  obtain ⟨DLog, hmLog, hhLog⟩ := mh_SentS x.Log (k + (cSky x.Sky : Nat) + (cProgram x.Program : Nat) + (cLaw x.Law : Nat) + (sumC (fun (_ : Int) => 1) x.Offsets : Nat) + (sumC cBattery x.Batteries : Nat) + (sumC cQueue x.Queues : Nat) + (sumC cFlow x.Flows : Nat) + (sumC (fun (_ : Int) => 1) x.Counts : Nat) + (sumC cStream x.Streams : Nat) + (sumC cFault x.Faults : Nat) + (sumC cPacket x.Done : Nat)) hLog (by omega) (by omega)
  refine ⟨{ x with Sky := DSky, Program := DProgram, Law := DLaw, Offsets := DOffsets, Batteries := DBatteries, Queues := DQueues, Flows := DFlows, Counts := DCounts, Streams := DStreams, Faults := DFaults, Done := DDone, Log := DLog }, ?_, ?_⟩
  · simp only [L_markWorld, cWorld, Option.bind_some, hmSky, hmProgram, hmLaw, hmOffsets, hmBatteries, hmQueues, hmFlows, hmCounts, hmStreams, hmFaults, hmDone, hmLog]
    try (simp only [Option.some.injEq, Prod.mk.injEq, true_and]; omega)
  · simp (disch := omega) only [L_heldWorld, cWorld, Option.bind_some, cond_false, dec_neg, hhSky, hhProgram, hhLaw, hhOffsets, hhBatteries, hhQueues, hhFlows, hhCounts, hhStreams, hhFaults, hhDone, hhLog]
    try (simp only [Option.some.injEq]; omega)

end Net

/- Copies of a world, and the law on faults. -/
namespace Net
open Go
set_option linter.unusedVariables false
set_option linter.unusedSimpArgs false

theorem app_nil {α : Type} {p : α → Prop} {xs : List α} (h : okL NM p xs) : appE [] xs = some xs := by
  have := h.1
  simp only [NM] at this
  unfold appE
  rw [if_pos (by simp only [List.length_nil, room]; omega)]
  rfl
theorem clone_ok {α : Type} {p : α → Prop} {xs : List α} (h : okL NM p xs) : Clone xs = some xs := by
  have := h.1
  simp only [NM] at this
  unfold Clone
  rw [if_pos (by simp only [room]; omega)]
theorem app_one {α : Type} {pre : List α} {i : Nat} (h : pre.length = i) (hi : (i : Int) < NM) (x : α) : appE pre [x] = some (pre ++ [x]) := by
  simp only [NM] at hi
  unfold appE
  rw [if_pos (by simp only [List.length_cons, List.length_nil, room]; omega)]
theorem bind_of {A B : Type} {o : Option A} {v : A} {k : A → Option B} (h : o = some v) : Option.bind o k = k v := by rw [h]; rfl
theorem cp_gen {α S X : Type} {f : S × Int × Unit → Option ((S × Int × Unit) ⊕ ((S × Unit) ⊕ X))} {ok : α → Prop} (st : List α → S) (a : List α) (ha : okL NM ok a)
    (hf : ∀ (i : Nat) (x : α) (pre : List α), a[i]? = some x → ok x → pre.length = i → (i : Int) < NM → f (st pre, (i : Int), ()) = some (.inl (st (pre ++ [x]), (i : Int) + 1, ())))
    (hf0 : f (st a, (a.length : Int), ()) = some (.inr (.inl (st a, ())))) : iter f (st [], 0, ()) = some (.inl (st a, ())) := by
  obtain ⟨hl, hok⟩ := ha
  have h1 := iter_run (f := f) (st := fun i => (st (a.take i), (i : Int), ())) (e := .inl (st a, ())) a.length (fun i hi => by
    have hx : a[i]? = some a[i] := List.getElem?_eq_getElem hi
    rw [hf i a[i] (a.take i) hx (hok _ (List.getElem_mem hi)) (by simp; omega) (by simp only [NM] at hl ⊢; omega), List.take_add_one, hx]
    rfl) (by
    simp only [List.take_length]
    exact hf0)
  simpa using h1

theorem l15_ok (t : Table) (h : okTable NM t) : S_l15Copy t = some t := by
  simp only [S_l15Copy, app_nil h.1, app_nil h.2.1, Option.bind_some]
theorem cloneTable_ok (t : Table) (h : okTable NM t) : I_cloneTable t = some t := by
  simp only [I_cloneTable, clone_ok h.1, clone_ok h.2.1, Option.bind_some]
theorem l24_ok (t : Queue) (h : okQueue NM t) : S_l24Copy t = some t := by
  simp only [S_l24Copy, app_nil h.1, Option.bind_some]
theorem cloneQueue_ok (t : Queue) (h : okQueue NM t) : I_cloneQueue t = some t := by
  simp only [I_cloneQueue, clone_ok h.1, Option.bind_some]
theorem l25_ok (t : Stream) (h : okStream NM t) : S_l25Copy t = some t := by
  simp only [S_l25Copy, app_nil h.1, Option.bind_some]
theorem cloneStream_ok (t : Stream) (h : okStream NM t) : I_cloneStream t = some t := by
  simp only [I_cloneStream, clone_ok h.1, Option.bind_some]
theorem l33Sky_ok (t : Sky) (h : okSky NM t) : S_l33Sky t = some t := by
  simp only [S_l33Sky, app_nil h.1, app_nil h.2.1, app_nil h.2.2.1, Option.bind_some]
theorem cloneSky_ok (t : Sky) (h : okSky NM t) : I_cloneSky t = some t := by
  simp only [I_cloneSky, clone_ok h.1, clone_ok h.2.1, clone_ok h.2.2.1, Option.bind_some]
theorem l17_ok (p : Prog) (h : okProgram NM p) : S_l17Copy p = some p := by
  unfold S_l17Copy
  refine (bind_of (cp_gen (ok := okPiece NM) (fun q => { p with Pieces := q }) p.Pieces h.1 ?_ ?_)).trans rfl
  · intro i x pre hx hok hp hi
    have hlt := lt_of_get hx
    have hi' := hi
    simp only [NM] at hi'
    simp (disch := omega) only [rdI_at hx, hlt, decide_true, cond_true, Option.bind_some, Int.ofNat_lt, app_nil hok.1]
    refine (bind_of (cp_gen (ok := okTable NM) (fun q => (⟨x.Span, x.Links, q⟩ : Piece)) x.Tables hok.2.1 ?_ ?_)).trans ?_
    · intro j y pre hy hok hp hj
      have hlt := lt_of_get hy
      have hj' := hj
      simp only [NM] at hj'
      simp (disch := omega) only [rdI_at hy, hlt, W_id, decide_true, cond_true, Option.bind_some, Int.ofNat_lt, l15_ok y hok, app_one hp hj]
    · simp
    · simp (disch := omega) only [sumE, W_id, Option.bind_some, app_one hp hi]
  · simp
theorem cloneProgram_ok (p : Prog) (h : okProgram NM p) : I_cloneProgram p = some p := by
  unfold I_cloneProgram
  refine (bind_of (cp_gen (ok := okPiece NM) (fun q => q) p.Pieces h.1 ?_ ?_)).trans rfl
  · intro i x pre hx hok hp hi
    have hlt := lt_of_get hx
    have hi' := hi
    simp only [NM] at hi'
    simp (disch := omega) only [rdI_at hx, hlt, decide_true, cond_true, Option.bind_some, Int.ofNat_lt, I_cloneLinks, clone_ok hok.1]
    refine (bind_of (cp_gen (ok := okTable NM) (fun q => (⟨x.Span, x.Links, q⟩ : Piece)) x.Tables hok.2.1 ?_ ?_)).trans ?_
    · intro j y pre hy hok hp hj
      have hlt := lt_of_get hy
      have hj' := hj
      simp only [NM] at hj'
      simp (disch := omega) only [rdI_at hy, hlt, W_id, decide_true, cond_true, Option.bind_some, Int.ofNat_lt, cloneTable_ok y hok, app_one hp hj]
    · simp
    · simp (disch := omega) only [sumE, W_id, Option.bind_some, app_one hp hi]
  · simp
theorem l33_ok (w : Wd) (h : okWorld NM w) : S_l33Copy w = some w := by
  obtain ⟨h1, h2, h3, h4, h5, h6, h7, h8, h9, h10, h11, h12, _⟩ := h
  unfold S_l33Copy
  simp only [l33Sky_ok _ h1, l17_ok _ h2, app_nil h3.1, app_nil h4, app_nil h5, Option.bind_some]
  refine (bind_of (cp_gen (ok := okQueue NM) (fun q => (⟨w.Sky, w.Program, w.Law, w.Offsets, w.Batteries, q, [], [], [], [], w.Now, w.End, [], []⟩ : Wd)) w.Queues h6 ?_ ?_)).trans ?_
  · intro i x pre hx hok hp hi
    have hlt := lt_of_get hx
    have hi' := hi
    simp only [NM] at hi'
    simp (disch := omega) only [rdI_at hx, hlt, W_id, decide_true, cond_true, Option.bind_some, Int.ofNat_lt, l24_ok x hok, app_one hp hi]
  · simp
  simp only [sumE, app_nil h7, app_nil h8, app_nil h10, app_nil h11, app_nil h12, Option.bind_some]
  refine (bind_of (cp_gen (ok := okStream NM) (fun q => (⟨w.Sky, w.Program, w.Law, w.Offsets, w.Batteries, w.Queues, w.Flows, w.Counts, q, [], w.Now, w.End, [], []⟩ : Wd)) w.Streams h9 ?_ ?_)).trans ?_
  · intro i x pre hx hok hp hi
    have hlt := lt_of_get hx
    have hi' := hi
    simp only [NM] at hi'
    simp (disch := omega) only [rdI_at hx, hlt, W_id, decide_true, cond_true, Option.bind_some, Int.ofNat_lt, l25_ok x hok, app_one hp hi]
  · simp
  rfl
theorem cloneWorld_ok (w : Wd) (h : okWorld NM w) : I_cloneWorld w = some w := by
  obtain ⟨h1, h2, h3, h4, h5, h6, h7, h8, h9, h10, h11, h12, _⟩ := h
  unfold I_cloneWorld
  simp only [cloneSky_ok _ h1, cloneProgram_ok _ h2, clone_ok h3.1, clone_ok h4, clone_ok h5, clone_ok h7, clone_ok h8, clone_ok h10, clone_ok h11, clone_ok h12, Option.bind_some]
  refine (bind_of (cp_gen (ok := okQueue NM) (fun q => (⟨w.Sky, w.Program, w.Law, w.Offsets, w.Batteries, q, w.Flows, w.Counts, [], w.Faults, w.Now, w.End, w.Done, w.Log⟩ : Wd)) w.Queues h6 ?_ ?_)).trans ?_
  · intro i x pre hx hok hp hi
    have hlt := lt_of_get hx
    have hi' := hi
    simp only [NM] at hi'
    simp (disch := omega) only [rdI_at hx, hlt, W_id, decide_true, cond_true, Option.bind_some, Int.ofNat_lt, cloneQueue_ok x hok, app_one hp hi]
  · simp
  simp only [sumE]
  refine (bind_of (cp_gen (ok := okStream NM) (fun q => (⟨w.Sky, w.Program, w.Law, w.Offsets, w.Batteries, w.Queues, w.Flows, w.Counts, q, w.Faults, w.Now, w.End, w.Done, w.Log⟩ : Wd)) w.Streams h9 ?_ ?_)).trans ?_
  · intro i x pre hx hok hp hi
    have hlt := lt_of_get hx
    have hi' := hi
    simp only [NM] at hi'
    simp (disch := omega) only [rdI_at hx, hlt, W_id, decide_true, cond_true, Option.bind_some, Int.ofNat_lt, cloneStream_ok x hok, app_one hp hi]
  · simp
  rfl
end Net

/- The law on faults. -/
namespace Net
open Go
set_option linter.unusedVariables false
set_option linter.unusedSimpArgs false

def inI (n : Int) : Prop := -9223372036854775808 ≤ n ∧ n ≤ 9223372036854775807
theorem room_World (w : Wd) (h : okWorld NM w) : (1 : Int) + cWorld w ≤ BB := by
  have := cWorld_le w h
  simp only [BB]
  omega
theorem isSpan_same (s : Span) : ∃ b, S_IsSpan s = some b ∧ I_IsSpan s = some b := by
  unfold S_IsSpan I_IsSpan
  by_cases h1 : s.From ≥ 0 <;> by_cases h2 : s.To ≤ 1000 <;> simp [h1, h2]
theorem isFault_same (x : Fault) (n : Int) (hn : inI n) : ∃ b, S_IsFault x n = some b ∧ I_IsFault x n = some b := by
  obtain ⟨b, hb1, hb2⟩ := isSpan_same ⟨x.From, x.To⟩
  simp only [S_IsFault, I_IsFault, I_isIndex, I_InRange, hb1, hb2, Option.bind_some]
  by_cases h1 : x.A ≥ 0
  · by_cases h2 : x.A < n
    · have e : W (n - 1) = n - 1 := W_id (by have := hn.1; omega) (by have := hn.2; omega)
      rw [e]
      by_cases h3 : x.B ≥ -1
      · by_cases h4 : x.B < n
        · by_cases h5 : x.A = x.B
          · have b1 : (x.A == x.B) = true := by simp [h5]
            have b2 : (x.B == x.A) = true := by simp [h5]
            have h6 : x.B ≤ n - 1 := by omega
            simp [h1, h2, h3, h4, b1, b2, h6]
          · have b1 : (x.A == x.B) = false := by simp [h5]
            have b2 : (x.B == x.A) = false := by simp [Ne.symm h5]
            have h6 : x.B ≤ n - 1 := by omega
            have h7 : -1 ≤ x.B := h3
            simp [h1, h2, h7, h4, b1, b2, h6]
        · have h6 : ¬ x.B ≤ n - 1 := by omega
          have h7 : -1 ≤ x.B := h3
          simp [h1, h2, h7, h4, h6]
      · have h7 : ¬ -1 ≤ x.B := h3
        simp [h1, h2, h7]
    · simp [h1, h2]
  · simp [h1]

/-- What both sides of a change answer. -/
def Same (a b : Option (Wd × Bool)) : Prop := ∃ w' f, a = some (w', f) ∧ b = some (w', f) ∧ okWorld NM w'
theorem same_if {p : Bool} {a b c d : Option (Wd × Bool)} (h1 : p = true → Same a c) (h2 : p = false → Same b d) : Same (cond p a b) (cond p c d) := by
  cases p
  · exact h2 rfl
  · exact h1 rfl
theorem okW (w : Wd) (h : okWorld NN w) : okWorld NM w := okWorld_mono (by simp only [NN, NM]; omega) _ h
theorem stepFault_same (w : Wd) (x : Fault) (hw : okWorld NN w) (hn : inI w.Program.Nodes) : Same (S_StepFault w x) (I_StepFault w x) := by
  obtain ⟨b, h1, h2⟩ := isFault_same x w.Program.Nodes hn
  have hok := okW w hw
  simp only [S_StepFault, I_StepFault, l33_ok w hok, cloneWorld_ok w hok, h1, h2, Option.bind_some]
  refine same_if (fun _ => ⟨_, _, rfl, rfl, hok⟩) fun _ => same_if (fun _ => ⟨_, _, rfl, rfl, hok⟩) fun _ => same_if (fun _ => ⟨_, _, rfl, rfl, hok⟩) fun hf => ?_
  have hf : ¬ ((w.Faults.length : Int) ≥ 12) := of_decide_eq_false hf
  rw [app_one (pre := w.Faults) rfl (by simp only [NM]; omega)]
  refine ⟨_, _, rfl, rfl, ?_⟩
  obtain ⟨h1, h2, h3, h4, h5, h6, h7, h8, h9, h10, h11, h12, _⟩ := hok
  exact ⟨h1, h2, h3, h4, h5, h6, h7, h8, h9, ⟨by rw [len_cons1]; simp only [NM]; omega, fun _ _ => trivial⟩, h11, h12, trivial⟩
theorem ne_false {p : Bool} (h : p = true) : (!p) = false := by rw [h]; rfl
theorem stepFault_law (w : Wd) (x : Fault) (hp : preWorld w) (hn : inI w.Program.Nodes) : L_FnExactStepFault w x = some true := by
  obtain ⟨r, hr, _, hok⟩ := sz_World w 1048576 hp (by decide) (by decide)
  unfold L_FnExactStepFault
  rw [hr, Option.bind_some]
  by_cases h : r < 0
  · simp [h]
  have hw := hok (by omega)
  have hk := okW w hw
  obtain ⟨w', b, hS, hI, hk'⟩ := stepFault_same w x hw hn
  obtain ⟨a1, m1, d1⟩ := mh_World w 1 hk (by decide) (room_World w hk)
  obtain ⟨a2, m2, d2⟩ := mh_World w' 1 hk' (by decide) (room_World w' hk')
  have g1 : decide (r < 0) = false := by simp; omega
  simp (disch := omega) only [g1, cond_false, to_World w hk, to_Fault, hS, hI, eq_World _ _ hk', eq_World _ _ hk, Option.bind_some, decide_true, Bool.not_true, BEq.rfl, m1, m2, d2, dec_neg]
end Net

/- What of the arguments the plain laws need. -/
namespace Net
open Go
set_option linter.unusedVariables false
set_option linter.unusedSimpArgs false

def okX (t : Ty) (x : El t) : Prop := ∃ d, okE d t x
def allF (Q : (t : Ty) → El t → Prop) : (ts : List Ty) → HL ts → Prop
  | [], _ => True
  | t :: ts, x => Q t x.1 ∧ allF Q ts x.2
theorem FL_all {Q R : (t : Ty) → El t → Prop} (h : ∀ t y, Q t y → R t y) : ∀ (ts : List Ty) (x : HL ts), FL (fun t y _ _ => Q t y) ts x [] [] → allF R ts x
  | [], _, _ => trivial
  | t :: ts, x, hh => by
    obtain ⟨c, c', g, g', h1, h2, h3, h4⟩ := hh
    obtain ⟨rfl, rfl⟩ := List.append_eq_nil_iff.1 h1.symm
    obtain ⟨rfl, rfl⟩ := List.append_eq_nil_iff.1 h2.symm
    exact ⟨h _ _ h3, FL_all h ts x.2 h4⟩
theorem okX_st {s : SId} {x : Str s} (h : okX (.st s) x) : allF okX (fieldsOf s) (toL s x) := by
  obtain ⟨d, h⟩ := h
  match d, h with
  | d + 1, h => exact FL_all (fun t y h => ⟨d, h⟩) _ _ h
theorem okX_sl {e : Ty} {xs : List (El e)} (h : okX (.sl e) xs) : (xs.length : Int) ≤ MX ∧ ∀ y ∈ xs, okX e y := by
  obtain ⟨d, h⟩ := h
  match d, h with
  | d + 1, h =>
    refine ⟨by have := h.1; simp only [maxLen] at this; simp only [MX]; omega, fun y hy => ?_⟩
    obtain ⟨i, hi⟩ := List.getElem?_of_mem hy
    exact ⟨d, h.2 i y hi⟩
theorem okX_i {n : Int} (h : okX I64 n) : inI n := by
  obtain ⟨d, h⟩ := h
  match d, h with
  | d + 1, h =>
    have h : (Lit.int .i64 n).wf = true := h
    simp [Lit.wf, IntKind.min, IntKind.max, IntKind.wrap, IntKind.signed, IntKind.bits] at h
    refine ⟨?_, ?_⟩ <;> omega
theorem preX {e : Ty} {xs : List (El e)} (h : okX (.sl e) xs) : preL (fun _ => True) xs := ⟨(okX_sl h).1, fun _ _ => trivial⟩
theorem preY {e : Ty} {xs : List (El e)} {p : El e → Prop} (hp : ∀ y, okX e y → p y) (h : okX (.sl e) xs) : preL p xs := ⟨(okX_sl h).1, fun y hy => hp y ((okX_sl h).2 y hy)⟩
theorem preTable_of (x : Table) (h : okX (.st .table) x) : preTable x := by
  obtain ⟨_, h1, h2, _⟩ := okX_st h
  exact ⟨preX h1, preX h2, trivial⟩
theorem prePiece_of (x : Piece) (h : okX (.st .piece) x) : prePiece x := by
  obtain ⟨_, h1, h2, _⟩ := okX_st h
  exact ⟨preX h1, preY preTable_of h2, trivial⟩
theorem preProgram_of (x : Prog) (h : okX (.st .prog) x) : preProgram x := by
  obtain ⟨_, _, _, h1, _⟩ := okX_st h
  exact ⟨preY prePiece_of h1, trivial⟩
theorem preQueue_of (x : Queue) (h : okX (.st .queue) x) : preQueue x := by
  obtain ⟨h1, _⟩ := okX_st h
  exact ⟨preX h1, trivial⟩
theorem preStream_of (x : Stream) (h : okX (.st .stream) x) : preStream x := by
  obtain ⟨_, _, h1, _⟩ := okX_st h
  exact ⟨preX h1, trivial⟩
theorem preSky_of (x : Sky) (h : okX (.st .sky) x) : preSky x := by
  obtain ⟨_, h1, h2, _, _, _, _, _, h3, _⟩ := okX_st h
  exact ⟨preX h1, preX h2, preX h3, trivial⟩
theorem preLaw_of (x : Law) (h : okX (.st .law) x) : preLaw x := by
  obtain ⟨h1, _⟩ := okX_st h
  exact ⟨preX h1, trivial⟩
theorem preWorld_of (x : Wd) (h : okX (.st .world) x) : preWorld x := by
  obtain ⟨h1, h2, h3, h4, h5, h6, h7, h8, h9, h10, _, _, h11, h12, _⟩ := okX_st h
  exact ⟨preSky_of _ h1, preProgram_of _ h2, preLaw_of _ h3, preX h4, preX h5, preY preQueue_of h6, preX h7, preX h8, preY preStream_of h9, preX h10, preX h11, preX h12, trivial⟩
theorem nodes_of (x : Wd) (h : okX (.st .world) x) : inI x.Program.Nodes := by
  obtain ⟨_, h2, _⟩ := okX_st h
  obtain ⟨h1, _⟩ := okX_st h2
  exact okX_i h1
end Net

/- The law on offers. -/
namespace Net
open Go
set_option linter.unusedVariables false
set_option linter.unusedSimpArgs false

/-- Where it is found, or -1. -/
def fI {α : Type} (p : α → Bool) (xs : List α) : Int := match xs.findIdx? p with | some i => i | none => -1
theorem find_loop {α : Type} {ok : α → Prop} {f : Int × Unit → Option ((Int × Unit) ⊕ (Unit ⊕ Int))} (p : α → Bool) (xs : List α) (hl : okL NM ok xs)
    (hf : ∀ (i : Nat) (x : α), xs[i]? = some x → (i : Int) < NM → f ((i : Int), ()) = cond (p x) (some (.inr (.inr (i : Int)))) (some (.inl ((i : Int) + 1, ()))))
    (hf0 : f ((xs.length : Int), ()) = some (.inr (.inl ()))) : Option.bind (iter f (0, ())) (sumE (fun _ => some (-1)) some) = some (fI p xs) := by
  have hl := hl.1
  have key : ∀ (s pre : List α), xs = pre ++ s → iter f ((pre.length : Int), ()) = some (match s.findIdx? p with | some i => .inr ((pre.length : Int) + (i : Int)) | none => .inl ()) := by
    intro s
    induction s with
    | nil =>
      intro pre h
      have : xs.length = pre.length := by rw [h]; simp
      rw [this] at hf0
      rw [iter_eq, hf0]
      rfl
    | cons x s ih =>
      intro pre h
      have hx : xs[pre.length]? = some x := by rw [h]; simp
      have hlt := lt_of_get hx
      rw [iter_eq, hf pre.length x hx (by simp only [NM] at hl ⊢; omega)]
      by_cases hp : p x = true
      · simp [hp, List.findIdx?_cons]
      · have hp : p x = false := by simpa using hp
        have := ih (pre ++ [x]) (by rw [h]; simp)
        rw [len_cons1] at this
        simp only [hp, cond_false, this, List.findIdx?_cons]
        cases s.findIdx? p <;> simp
        omega
  have := key xs [] rfl
  simp only [List.length_nil] at this
  show Option.bind (iter f (((0 : Nat) : Int), ())) _ = _
  rw [this]
  unfold fI
  cases xs.findIdx? p <;> simp [sumE]
theorem fI_at {α : Type} {p : α → Bool} {xs : List α} (h : ¬ fI p xs < 0) : ∃ (i : Nat) (x : α), fI p xs = i ∧ xs[i]? = some x ∧ p x = true := by
  unfold fI at h ⊢
  cases hx : xs.findIdx? p with
  | none => rw [hx] at h; simp at h
  | some i =>
    obtain ⟨h1, h2, _⟩ := List.findIdx?_eq_some_iff_getElem.1 hx
    exact ⟨i, xs[i], rfl, List.getElem?_eq_getElem h1, h2⟩
/-- All elements, one after the other. -/
theorem fold_gen {α S X : Type} {f : S × Int × Unit → Option ((S × Int × Unit) ⊕ ((S × Unit) ⊕ X))} {ok : α → Prop} (g : S → α → S) (s : S) (a : List α) (ha : okL NM ok a)
    (hf : ∀ (i : Nat) (x : α) (s : S), a[i]? = some x → ok x → (i : Int) < NM → f (s, (i : Int), ()) = some (.inl (g s x, (i : Int) + 1, ())))
    (hf0 : ∀ s, f (s, (a.length : Int), ()) = some (.inr (.inl (s, ())))) : iter f (s, 0, ()) = some (.inl (a.foldl g s, ())) := by
  obtain ⟨hl, hok⟩ := ha
  have h1 := iter_run (f := f) (st := fun i => ((a.take i).foldl g s, (i : Int), ())) (e := .inl (a.foldl g s, ())) a.length (fun i hi => by
    have hx : a[i]? = some a[i] := List.getElem?_eq_getElem hi
    rw [hf i a[i] _ hx (hok _ (List.getElem_mem hi)) (by simp only [NM] at hl ⊢; omega), List.take_add_one, hx, List.foldl_append]
    rfl) (by
    simp only [List.take_length]
    exact hf0 _)
  simpa using h1

theorem condF (p q : Bool) : cond p (some q) (some false) = some (p && q) := by cases p <;> rfl
theorem l1In_eq (x a b : Int) : S_l1In x a b = some (decide (a ≤ x) && decide (x ≤ b)) := by
  unfold S_l1In; rw [condF]
theorem InRange_eq (x a b : Int) : I_InRange x a b = some (decide (a ≤ x) && decide (x ≤ b)) := by
  unfold I_InRange; rw [condF]
theorem isIndex_eq (x n : Int) : I_isIndex x n = some (decide (0 ≤ x) && decide (x < n)) := by
  unfold I_isIndex; rw [condF]
theorem isPacket_same (x : Packet) (n : Int) : ∃ b, S_IsPacket x n = some b ∧ I_IsPacket x n = some b ∧ (b = true → 0 ≤ x.Src ∧ x.Src < n) := by
  simp only [S_IsPacket, I_IsPacket, l1In_eq, InRange_eq, isIndex_eq, Option.bind_some, condF, ge_iff_le]
  refine ⟨_, rfl, ?_, ?_⟩
  · simp only [Bool.and_assoc]
  · intro h
    simp only [Bool.and_eq_true, decide_eq_true_eq] at h
    omega
theorem l33Flow_eq (w : Wd) (h : okWorld NM w) (id : Int) : S_l33Flow w id = some (fI (fun (y : Flow) => y.Id == id) w.Flows) := by
  obtain ⟨h1, h2, h3, h4, h5, h6, h7, _⟩ := h
  unfold S_l33Flow
  refine find_loop _ w.Flows h7 ?_ (by simp)
  intro i x hx hi
  have hlt := lt_of_get hx
  simp only [NM] at hi
  simp (disch := omega) only [rdI_at hx, hlt, W_id, decide_true, cond_true, Option.bind_some, Int.ofNat_lt]
theorem IndexFunc_Flow_eq (xs : List Flow) (h : okL NM (fun _ => True) xs) (p : Flow → Bool) : IndexFunc_Flow xs (fun a => some (p a.1)) = some (fI p xs) := by
  unfold IndexFunc_Flow
  refine find_loop _ xs h ?_ (by simp)
  intro i x hx hi
  have hlt := lt_of_get hx
  simp only [NM] at hi
  simp (disch := omega) only [rdI_at hx, hlt, W_id, decide_true, cond_true, Option.bind_some, Int.ofNat_lt]
theorem flowAt_eq (w : Wd) (h : okWorld NM w) (id : Int) : I_flowAt w id = some (fI (fun (y : Flow) => y.Id == id) w.Flows) := by
  obtain ⟨h1, h2, h3, h4, h5, h6, h7, _⟩ := h
  unfold I_flowAt
  simp only [I_flowAt_1, Option.map_some]
  rw [IndexFunc_Flow_eq w.Flows h7 (fun y => y.Id == id)]
  rfl
theorem FindPacket_eq (q : Queue) (h : okQueue NM q) (id : Int) : S_FindPacket q id = some (fI (fun (y : Packet) => y.Id == id) q.Items) := by
  unfold S_FindPacket
  refine find_loop _ q.Items h.1 ?_ (by simp)
  intro i x hx hi
  have hlt := lt_of_get hx
  simp only [NM] at hi
  simp (disch := omega) only [rdI_at hx, hlt, W_id, decide_true, cond_true, Option.bind_some, Int.ofNat_lt]
theorem IndexFunc_Packet_eq (xs : List Packet) (h : okL NM (fun _ => True) xs) (p : Packet → Bool) : IndexFunc_Packet xs (fun a => some (p a.1)) = some (fI p xs) := by
  unfold IndexFunc_Packet
  refine find_loop _ xs h ?_ (by simp)
  intro i x hx hi
  have hlt := lt_of_get hx
  simp only [NM] at hi
  simp (disch := omega) only [rdI_at hx, hlt, W_id, decide_true, cond_true, Option.bind_some, Int.ofNat_lt]
theorem FindPacketI_eq (q : Queue) (h : okQueue NM q) (id : Int) : I_FindPacket q id = some (fI (fun (y : Packet) => y.Id == id) q.Items) := by
  unfold I_FindPacket
  simp only [I_FindPacket_1, Option.map_some]
  rw [IndexFunc_Packet_eq q.Items h.1 (fun y => y.Id == id)]
  rfl
theorem push_same (q : Queue) (x : Packet) (h : okQueue NM q) : ∃ q' b, S_PushPacket q x = some (q', b) ∧ I_PushPacket q x = some (q', b) ∧ okQueue NM q' := by
  simp only [S_PushPacket, I_PushPacket, l24_ok q h, cloneQueue_ok q h, FindPacket_eq q h, FindPacketI_eq q h, Option.bind_some]
  by_cases h1 : (q.Items.length : Int) ≥ 12
  · exact ⟨q, false, by simp [h1], by simp [h1], h⟩
  · by_cases h2 : fI (fun (y : Packet) => y.Id == x.Id) q.Items ≥ 0
    · exact ⟨q, false, by simp [h1, h2], by simp [h1, h2], h⟩
    · have e := app_one (pre := q.Items) rfl (by simp only [NM]; omega) x
      refine ⟨⟨q.Items ++ [x]⟩, true, by simp [h1, h2, e], by simp [h1, h2, e], ⟨by rw [len_cons1]; simp only [NM]; omega, fun _ _ => trivial⟩, trivial⟩
theorem sumOf_eq (l : List Int) (h : okL NM (fun _ => True) l) : I_sumOf l = some (l.foldl (fun s y => W (s + y)) 0) := by
  unfold I_sumOf
  refine (bind_of (fold_gen (fun s y => W (s + y)) 0 l h ?_ (by intro s; simp))).trans rfl
  intro i x s hx _ hi
  have hlt := lt_of_get hx
  simp only [NM] at hi
  simp (disch := omega) only [rdI_at hx, hlt, W_id (x := (i : Int) + 1), decide_true, cond_true, Option.bind_some, Int.ofNat_lt]
theorem rdI_lt {α : Type} {xs : List α} {k : Int} (h0 : 0 ≤ k) (h : k < (xs.length : Int)) : ∃ y, rdI xs k = some y ∧ xs[k.toNat]? = some y := by
  have hk : k.toNat < xs.length := by omega
  refine ⟨xs[k.toNat], ?_, List.getElem?_eq_getElem hk⟩
  unfold rdI
  rw [if_pos h0, List.getElem?_eq_getElem hk]
theorem okL_set {α : Type} {n : Int} {ok : α → Prop} {xs : List α} (h : okL n ok xs) (i : Nat) {v : α} (hv : ok v) : okL n ok (xs.set i v) := by
  refine ⟨by simpa using h.1, fun x hx => ?_⟩
  rcases List.mem_or_eq_of_mem_set hx with hx | rfl
  · exact h.2 x hx
  · exact hv
theorem same_l {a a' b : Option (Wd × Bool)} (h : a = a') (h' : Same a' b) : Same a b := h ▸ h'
theorem stepOffer_same (w : Wd) (id : Int) (hok : okWorld NM w) : Same (S_StepOffer w id) (I_StepOffer w id) := by
  have hok' := hok
  obtain ⟨h1, h2, h3, h4, h5, h6, h7, h8, h9, h10, h11, h12, _⟩ := hok'
  simp only [S_StepOffer, I_StepOffer, l33_ok w hok, cloneWorld_ok w hok, l33Flow_eq w hok, flowAt_eq w hok, sumOf_eq w.Counts h8, isIndex_eq, Option.bind_some]
  refine same_if (fun _ => ⟨_, _, rfl, rfl, hok⟩) fun hr => same_if (fun _ => ⟨_, _, rfl, rfl, hok⟩) fun hr2 => ?_
  have hr := of_decide_eq_false hr
  have hr2 := of_decide_eq_false hr2
  obtain ⟨i, y, e, hy, hid⟩ := fI_at hr
  have hid : y.Id = id := by simpa using hid
  rw [e] at hr2 ⊢
  obtain ⟨c, hc, hc'⟩ := rdI_lt (xs := w.Counts) (k := (i : Int)) (by omega) (by omega)
  simp only [rdI_at hy, hc, Option.bind_some, hid]
  refine same_l (bind_of (v := .inl (w.Counts.foldl (fun s y => W (s + y)) 0, ())) (fold_gen (fun s y => W (s + y)) 0 w.Counts h8 ?_ (by intro s; simp))) ?_
  · intro i x s hx _ hi
    have hlt := lt_of_get hx
    simp only [NM] at hi
    simp (disch := omega) only [rdI_at hx, hlt, W_id (x := (i : Int) + 1), decide_true, cond_true, Option.bind_some, Int.ofNat_lt]
  · simp only [sumE]
    generalize w.Counts.foldl (fun s y => W (s + y)) 0 = t
    obtain ⟨b, hb1, hb2, hb3⟩ := isPacket_same ⟨t, id, c, y.Src, y.Dst, y.Class⟩ w.Program.Nodes
    simp only [hb1, hb2, Option.bind_some]
    by_cases hs : 0 ≤ y.Src ∧ y.Src < (w.Queues.length : Int)
    · have e1 : (decide (0 ≤ y.Src) && decide (y.Src < (w.Queues.length : Int))) = true := by simp [hs]
      have e2 : decide (y.Src ≥ (w.Queues.length : Int)) = false := by simp; omega
      obtain ⟨q, hq, hq'⟩ := rdI_lt (xs := w.Queues) hs.1 hs.2
      obtain ⟨q', pb, hp1, hp2, hp3⟩ := push_same q ⟨t, id, c, y.Src, y.Dst, y.Class⟩ (h6.2 q (List.mem_of_getElem? hq'))
      simp only [e1, e2, hq, hp1, hp2, Option.bind_some, Bool.not_true, cond_false]
      cases b <;> cases pb <;> simp only [Bool.not_true, Bool.not_false, cond_true, cond_false]
      · exact ⟨_, _, rfl, rfl, hok⟩
      · exact ⟨_, _, rfl, rfl, hok⟩
      · exact ⟨_, _, rfl, rfl, hok⟩
      · exact ⟨_, _, rfl, rfl, h1, h2, h3, h4, h5, okL_set h6 _ hp3, h7, okL_set h8 _ trivial, h9, h10, h11, h12, trivial⟩
    · have e1 : (decide (0 ≤ y.Src) && decide (y.Src < (w.Queues.length : Int))) = false := by
        simp only [Bool.and_eq_false_iff, decide_eq_false_iff_not]
        omega
      simp only [e1, Bool.not_false, cond_true]
      cases b
      · exact ⟨_, _, rfl, rfl, hok⟩
      · have := hb3 rfl
        have e2 : decide (y.Src ≥ (w.Queues.length : Int)) = true := by simp only [decide_eq_true_eq]; simp only at this; omega
        simp only [e2, Bool.not_true, cond_false, cond_true]
        exact ⟨_, _, rfl, rfl, hok⟩
theorem stepOffer_law (w : Wd) (x : Int) (hp : preWorld w) : L_FnExactStepOffer w x = some true := by
  obtain ⟨r, hr, _, hok⟩ := sz_World w 1048576 hp (by decide) (by decide)
  unfold L_FnExactStepOffer
  rw [hr, Option.bind_some]
  by_cases h : r < 0
  · simp [h]
  have hw := hok (by omega)
  have hk := okW w hw
  obtain ⟨w', b, hS, hI, hk'⟩ := stepOffer_same w x hk
  obtain ⟨a1, m1, d1⟩ := mh_World w 1 hk (by decide) (room_World w hk)
  obtain ⟨a2, m2, d2⟩ := mh_World w' 1 hk' (by decide) (room_World w' hk')
  have g1 : decide (r < 0) = false := by simp; omega
  simp (disch := omega) only [g1, cond_false, to_World w hk, hS, hI, eq_World _ _ hk', eq_World _ _ hk, Option.bind_some, decide_true, Bool.not_true, BEq.rfl, m1, m2, d2, dec_neg]
end Net
