/- A walk by plain functions, part 9: that what a region of operations does is what a plain function says, for any program whose types are at hand. -/
import Derived.Test.YtoildogibnampaaGreatBaseH

/- The law on flows. -/
namespace Net
open Go
set_option linter.unusedVariables false
set_option linter.unusedSimpArgs false

/-- Two loops, round by round. -/
theorem iter_two {S1 S2 X1 X2 : Type} {f : S1 → Option (S1 ⊕ X1)} {g : S2 → Option (S2 ⊕ X2)} (R : Nat → S1 → S2 → Prop) (E : X1 → X2 → Prop)
    (h : ∀ n s t, R n s t → (∃ s' t' m, m < n ∧ f s = some (.inl s') ∧ g t = some (.inl t') ∧ R m s' t') ∨ (∃ x y, f s = some (.inr x) ∧ g t = some (.inr y) ∧ E x y)) :
    ∀ n s t, R n s t → ∃ x y, iter f s = some x ∧ iter g t = some y ∧ E x y := by
  intro n
  induction n using Nat.strongRecOn with
  | ind n ih =>
    intro s t hr
    rcases h n s t hr with ⟨s', t', m, hm, h1, h2, h3⟩ | ⟨x, y, h1, h2, h3⟩
    · obtain ⟨x, y, k1, k2, k3⟩ := ih m hm s' t' h3
      exact ⟨x, y, by rw [iter_eq, h1]; exact k1, by rw [iter_eq, h2]; exact k2, k3⟩
    · exact ⟨x, y, by rw [iter_eq, h1], by rw [iter_eq, h2], h3⟩

/-- A way by a table's entries to its end. -/
def Pth (next : List Int) (dst : Int) : List Int → Prop
  | [] => False
  | [x] => x = dst
  | x :: y :: r => x ≠ dst ∧ rdI next x = some y ∧ Pth next dst (y :: r)
theorem pth_uniq {next : List Int} {dst : Int} : ∀ (r q : List Int) (x : Int), Pth next dst (x :: r) → Pth next dst (x :: q) → r = q
  | [], [], _, _, _ => rfl
  | [], y :: q, x, h1, h2 => absurd h1 h2.1
  | y :: r, [], x, h1, h2 => absurd h2 h1.1
  | y :: r, z :: q, x, h1, h2 => by
    have e : y = z := Option.some.inj (h1.2.1.symm.trans h2.2.1)
    subst e
    rw [pth_uniq r q y h1.2.2 h2.2.2]
theorem pth_drop {next : List Int} {dst : Int} : ∀ (r : List Int) (x : Int), Pth next dst r → x ∈ r → ∃ q, q.length < r.length ∧ Pth next dst (x :: q)
  | [y], x, h, hx => by
    obtain rfl : x = y := by simpa using hx
    exact ⟨[], by simp, h⟩
  | y :: z :: r, x, h, hx => by
    rcases List.mem_cons.1 hx with rfl | hx
    · exact ⟨z :: r, by simp, h⟩
    · obtain ⟨q, h1, h2⟩ := pth_drop (z :: r) x h.2.2 hx
      exact ⟨q, by simp only [List.length_cons] at h1 ⊢; omega, h2⟩
theorem pth_nodup {next : List Int} {dst : Int} : ∀ (r : List Int), Pth next dst r → r.Nodup
  | [x], _ => by simp
  | x :: y :: r, h => by
    refine List.nodup_cons.2 ⟨fun hx => ?_, pth_nodup (y :: r) h.2.2⟩
    obtain ⟨q, h1, h2⟩ := pth_drop (y :: r) x h.2.2 hx
    have e := pth_uniq _ _ _ h h2
    rw [e] at h1
    exact Nat.lt_irrefl _ h1
/-- A piece of a way that is not at its end. -/
def Part (next : List Int) (dst : Int) : List Int → Int → Prop
  | [], _ => True
  | [x], y => x ≠ dst ∧ rdI next x = some y
  | x :: y :: r, z => x ≠ dst ∧ rdI next x = some y ∧ Part next dst (y :: r) z
theorem part_add {next : List Int} {dst : Int} : ∀ (r : List Int) (x y : Int), Part next dst r x → x ≠ dst → rdI next x = some y → Part next dst (r ++ [x]) y
  | [], x, y, _, h1, h2 => ⟨h1, h2⟩
  | [w], x, y, h, h1, h2 => ⟨h.1, h.2, h1, h2⟩
  | w :: v :: r, x, y, h, h1, h2 => ⟨h.1, h.2.1, part_add (v :: r) x y h.2.2 h1 h2⟩
theorem part_end {next : List Int} {dst : Int} : ∀ (r : List Int), Part next dst r dst → Pth next dst (r ++ [dst])
  | [], _ => rfl
  | [w], h => ⟨h.1, h.2, rfl⟩
  | w :: v :: r, h => ⟨h.1, h.2.1, part_end (v :: r) h.2.2⟩
theorem l1In_len (k : Int) (n : Int) (h0 : 0 ≤ n) (h : n ≤ NM) : S_l1In k 0 (W (n - 1)) = some (decide (0 ≤ k) && decide (k < n)) := by
  simp only [NM] at h
  rw [l1In_eq, W_id (by omega) (by omega)]
  congr 2
  simp only [decide_eq_decide]
  omega
theorem app_any {α : Type} {pre : List α} (h : (pre.length : Int) ≤ BB ∧ (pre.length : Int) < 68719476736) (x : α) : appE pre [x] = some (pre ++ [x]) := by
  unfold appE
  rw [if_pos (by simp only [List.length_cons, List.length_nil, room]; omega)]
theorem pathTo_same (next : List Int) (hn : okL NN (fun _ => True) next) (a dst : Int) : ∃ r, S_PathTo next a dst = some r ∧ I_PathTo next a dst = some r ∧ (r.length : Int) ≤ NM ∧ r.Nodup := by
  have hl := hn.1
  simp only [NN] at hl
  unfold S_PathTo I_PathTo
  have key := iter_two (f := fun s1 : List Int × Int × Unit => cond (decide ((s1.1.length : Int) ≤ (next.length : Int))) (
      Option.bind (S_l1In s1.2.1 0 (W ((next.length : Int) - 1))) fun r2 =>
      cond r2 (
        Option.bind (appE s1.1 ([s1.2.1])) fun xs3 =>
        cond (s1.2.1 == dst) (
          some (.inr (.inr xs3))) (
          Option.bind (rdI next s1.2.1) fun y4 =>
          some (.inl (xs3, y4, ())))) (
        some (.inr (.inl ())))) (
      some (.inr (.inl ()))))
    (g := fun s1 : Int × List Int × Unit => cond (decide ((s1.2.1.length : Int) ≤ (next.length : Int))) (
      Option.bind (I_isIndex s1.1 (next.length : Int)) fun r2 =>
      cond r2 (
        Option.bind (appE s1.2.1 ([s1.1])) fun xs3 =>
        cond (s1.1 == dst) (
          some (.inr (.inr xs3))) (
          Option.bind (rdI next s1.1) fun y4 =>
          some (.inl (y4, xs3, ())))) (
        some (.inr (.inl ())))) (
      some (.inr (.inl ()))))
    (fun n s t => s.1 = t.2.1 ∧ s.2.1 = t.1 ∧ Part next dst s.1 s.2.1 ∧ n + s.1.length = next.length + 1)
    (fun (x : Unit ⊕ List Int) (y : Unit ⊕ List Int) => x = y ∧ ∀ r, x = .inr r → (r.length : Int) ≤ NM ∧ r.Nodup)
    (by
      rintro n ⟨acc, cur, ⟨⟩⟩ ⟨cur', acc', ⟨⟩⟩ ⟨h1, h2, h3, h4⟩
      simp only at h1 h2 h3 h4
      subst h1 h2
      by_cases h5 : (acc.length : Int) ≤ (next.length : Int)
      · simp only [h5, decide_true, cond_true, l1In_len cur next.length (by omega) (by simp only [NM]; omega), isIndex_eq, Option.bind_some]
        by_cases h6 : 0 ≤ cur ∧ cur < (next.length : Int)
        · have e : (decide (0 ≤ cur) && decide (cur < (next.length : Int))) = true := by simp [h6]
          rw [e, cond_true, app_any (by simp only [BB]; omega)]
          simp only [cond_true, Option.bind_some]
          by_cases h7 : cur = dst
          · subst h7
            refine .inr ⟨.inr (acc ++ [cur]), .inr (acc ++ [cur]), by simp, by simp, rfl, fun r hr => ?_⟩
            obtain rfl := (Sum.inr.inj hr).symm
            exact ⟨by rw [len_cons1]; simp only [NM]; omega, pth_nodup _ (part_end acc h3)⟩
          · obtain ⟨y, hy, _⟩ := rdI_lt (xs := next) h6.1 h6.2
            have b : (cur == dst) = false := by simp [h7]
            refine .inl ⟨(acc ++ [cur], y, ()), (y, acc ++ [cur], ()), n - 1, by omega, by simp only [b, cond_false, hy, Option.bind_some], by simp only [b, cond_false, hy, Option.bind_some], rfl, rfl, part_add _ _ _ h3 h7 hy, ?_⟩
            simp only [List.length_append, List.length_cons, List.length_nil]
            omega
        · have e : (decide (0 ≤ cur) && decide (cur < (next.length : Int))) = false := by
            simp only [Bool.and_eq_false_iff, decide_eq_false_iff_not]
            omega
          simp only [e, cond_false]
          exact .inr ⟨.inl (), .inl (), rfl, rfl, rfl, fun r hr => by cases hr⟩
      · simp only [h5, decide_false, cond_false]
        exact .inr ⟨.inl (), .inl (), rfl, rfl, rfl, fun r hr => by cases hr⟩)
    (next.length + 1) ([], a, ()) (a, [], ()) ⟨rfl, rfl, trivial, by simp⟩
  obtain ⟨x, y, h1, h2, rfl, h3⟩ := key
  rw [h1, h2]
  rcases x with ⟨⟨⟩⟩ | r
  · exact ⟨[], rfl, rfl, by simp [NM], by simp⟩
  · exact ⟨r, rfl, rfl, (h3 r rfl).1, (h3 r rfl).2⟩
theorem tableIn_same (p : Prog) (hp : okProgram NN p) (k dst : Int) : ∃ t b, S_TableIn p k dst = some (t, b) ∧ I_TableIn p k dst = some (t, b) ∧ okTable NN t := by
  have hz : okTable NN ⟨0, [], []⟩ := ⟨⟨by simp [NN], fun _ _ => trivial⟩, ⟨by simp [NN], fun _ _ => trivial⟩, trivial⟩
  have hl := hp.1.1
  simp only [NN] at hl
  unfold S_TableIn I_TableIn
  simp only [l1In_len k p.Pieces.length (by omega) (by simp only [NM]; omega), isIndex_eq, Option.bind_some]
  by_cases h6 : 0 ≤ k ∧ k < (p.Pieces.length : Int)
  · have e : (decide (0 ≤ k) && decide (k < (p.Pieces.length : Int))) = true := by simp [h6]
    obtain ⟨y, hy, hy'⟩ := rdI_lt (xs := p.Pieces) h6.1 h6.2
    have ok := hp.1.2 y (List.mem_of_getElem? hy')
    have hl2 := ok.2.1.1
    simp only [NN] at hl2
    simp only [e, Bool.not_true, cond_false, hy, Option.bind_some, l1In_len dst y.Tables.length (by omega) (by simp only [NM]; omega)]
    by_cases h7 : 0 ≤ dst ∧ dst < (y.Tables.length : Int)
    · have e : (decide (0 ≤ dst) && decide (dst < (y.Tables.length : Int))) = true := by simp [h7]
      obtain ⟨t, ht, ht'⟩ := rdI_lt (xs := y.Tables) h7.1 h7.2
      have okt := ok.2.1.2 t (List.mem_of_getElem? ht')
      have okt' := okTable_mono (m := NM) (by decide) _ okt
      simp only [e, Bool.not_true, cond_false, ht, Option.bind_some, l15_ok t okt', cloneTable_ok t okt']
      exact ⟨_, _, rfl, rfl, okt⟩
    · have e : (decide (0 ≤ dst) && decide (dst < (y.Tables.length : Int))) = false := by
        simp only [Bool.and_eq_false_iff, decide_eq_false_iff_not]
        omega
      simp only [e, Bool.not_false, cond_true]
      exact ⟨_, _, rfl, rfl, hz⟩
  · have e : (decide (0 ≤ k) && decide (k < (p.Pieces.length : Int))) = false := by
      simp only [Bool.and_eq_false_iff, decide_eq_false_iff_not]
      omega
    simp only [e, Bool.not_false, cond_true]
    exact ⟨_, _, rfl, rfl, hz⟩
noncomputable def rt (p : Prog) (k : Int) (f : Flow) : List Int := (S_RouteIn p k f).getD []
theorem routeIn_same (p : Prog) (hp : okProgram NN p) (k : Int) (f : Flow) : S_RouteIn p k f = some (rt p k f) ∧ I_RouteIn p k f = some (rt p k f) ∧ ((rt p k f).length : Int) ≤ NM ∧ (rt p k f).Nodup := by
  have : ∃ r, S_RouteIn p k f = some r ∧ I_RouteIn p k f = some r ∧ (r.length : Int) ≤ NM ∧ r.Nodup := by
    obtain ⟨t, b, h1, h2, h3⟩ := tableIn_same p hp k f.Dst
    simp only [S_RouteIn, I_RouteIn, h1, h2, Option.bind_some]
    cases b
    · exact ⟨[], rfl, rfl, by simp [NM], by simp⟩
    · obtain ⟨r, k1, k2, k3, k4⟩ := pathTo_same t.Next h3.2.1 f.Src t.Dst
      exact ⟨r, by simp [S_RouteOf, k1], by simp [I_RouteOf, k2], k3, k4⟩
  obtain ⟨r, h1, h2, h3, h4⟩ := this
  have e : rt p k f = r := by simp [rt, h1]
  rw [e]
  exact ⟨h1, h2, h3, h4⟩

/-- Neighbours in a list. -/
def prs (r : List Int) : List (Int × Int) := r.zip r.tail
theorem prs_get {r : List Int} {i : Nat} {q : Int × Int} (h : (prs r)[i]? = some q) : r[i]? = some q.1 ∧ r[i + 1]? = some q.2 := by
  unfold prs at h
  rw [List.getElem?_zip_eq_some] at h
  obtain ⟨h1, h2⟩ := h
  refine ⟨h1, ?_⟩
  rw [List.getElem?_tail] at h2
  exact h2
theorem prs_len (r : List Int) : (prs r).length = r.length - 1 := by simp [prs]
theorem prs_fst : ∀ (r : List Int) (q : Int × Int), q ∈ prs r → q.1 ∈ r := by
  intro r q h
  exact (List.of_mem_zip h).1
def hop (a b : Int) (q : Int × Int) : Bool := q.1 == a && q.2 == b
theorem count_prs (a b : Int) : ∀ (r : List Int), r.Nodup → ∀ s : Int, (prs r).foldl (fun s q => cond (hop a b q) (W (s + 1)) s) s = cond ((prs r).any (hop a b)) (W (s + 1)) s
  | [], _, s => rfl
  | [x], _, s => rfl
  | x :: y :: r, h, s => by
    have e : prs (x :: y :: r) = (x, y) :: prs (y :: r) := rfl
    obtain ⟨h1, h2⟩ := List.nodup_cons.1 h
    rw [e, List.foldl_cons, List.any_cons, count_prs a b (y :: r) h2]
    by_cases hx : hop a b (x, y) = true
    · have hno : (prs (y :: r)).any (hop a b) = false := by
        rw [List.any_eq_false]
        intro q hq hh
        have hxa : x = a := by simp [hop] at hx; exact hx.1
        have hqa : q.1 = a := by simp [hop] at hh; exact hh.1
        exact h1 (by rw [hxa, ← hqa]; exact prs_fst _ _ hq)
      simp [hx, hno]
    · have hx : hop a b (x, y) = false := by simpa using hx
      simp [hx]
/-- Neighbours, one pair after the other. -/
theorem fold_prs {S X : Type} {f : S × Int × Unit → Option ((S × Int × Unit) ⊕ ((S × Unit) ⊕ X))} (g : S → Int × Int → S) (s : S) (r : List Int) (hr : (r.length : Int) ≤ NM)
    (hf : ∀ (i : Nat) (x y : Int) (s : S), r[i]? = some x → r[i + 1]? = some y → (i : Int) + 1 < NM → f (s, (i : Int) + 1, ()) = some (.inl (g s (x, y), (i : Int) + 1 + 1, ())))
    (hf0 : ∀ (s : S) (k : Int), ¬ k < (r.length : Int) → f (s, k, ()) = some (.inr (.inl (s, ())))) : iter f (s, 1, ()) = some (.inl ((prs r).foldl g s, ())) := by
  have hpl := prs_len r
  have h1 := iter_run (f := f) (st := fun i => (((prs r).take i).foldl g s, (i : Int) + 1, ())) (e := .inl ((prs r).foldl g s, ())) (prs r).length (fun i hi => by
    have hx : (prs r)[i]? = some (prs r)[i] := List.getElem?_eq_getElem hi
    obtain ⟨k1, k2⟩ := prs_get hx
    have hlt := lt_of_get k2
    rw [hf i _ _ _ k1 k2 (by omega), List.take_add_one, hx, List.foldl_append]
    rfl) (by
    simp only [List.take_length]
    exact hf0 _ _ (by omega))
  simpa using h1
theorem any_prs {f : Int × Unit → Option ((Int × Unit) ⊕ (Unit ⊕ Bool))} (p : Int × Int → Bool) (r : List Int) (hr : (r.length : Int) ≤ NM)
    (hf : ∀ (i : Nat) (x y : Int), r[i]? = some x → r[i + 1]? = some y → (i : Int) + 1 < NM → f ((i : Int) + 1, ()) = cond (p (x, y)) (some (.inr (.inr true))) (some (.inl ((i : Int) + 1 + 1, ()))))
    (hf0 : ∀ (k : Int), ¬ k < (r.length : Int) → f (k, ()) = some (.inr (.inl ()))) : Option.bind (iter f (1, ())) (sumE (fun _ => some false) some) = some ((prs r).any p) := by
  have hpl := prs_len r
  have key : ∀ (s pre : List (Int × Int)), prs r = pre ++ s → iter f ((pre.length : Int) + 1, ()) = some (cond (s.any p) (.inr true) (.inl ())) := by
    intro s
    induction s with
    | nil =>
      intro pre h
      rw [iter_eq, hf0 _ (by have : (prs r).length = pre.length := by rw [h]; simp
                             omega)]
      rfl
    | cons q s ih =>
      intro pre h
      have hx : (prs r)[pre.length]? = some q := by rw [h]; simp
      obtain ⟨k1, k2⟩ := prs_get hx
      have hlt := lt_of_get k2
      rw [iter_eq, hf pre.length _ _ k1 k2 (by omega)]
      by_cases hp : p q = true
      · have : p (q.1, q.2) = true := hp
        simp [this, hp]
      · have hp : p q = false := by simpa using hp
        have hp' : p (q.1, q.2) = false := hp
        have := ih (pre ++ [q]) (by rw [h]; simp)
        rw [len_cons1] at this
        simp only [hp', cond_false, this, List.any_cons, hp, Bool.false_or]
  have := key (prs r) [] rfl
  simp only [List.length_nil] at this
  show Option.bind (iter f (((0 : Nat) : Int) + 1, ())) _ = _
  rw [this]
  cases (prs r).any p <;> rfl
theorem W_pred {i : Nat} (h : (i : Int) + 1 < NM) : W ((i : Int) + 1 - 1) = (i : Int) := by
  simp only [NM] at h
  rw [W_id (by omega) (by omega)]; omega
theorem rdI_succ {α : Type} {xs : List α} {i : Nat} {x : α} (h : xs[i + 1]? = some x) : rdI xs ((i : Int) + 1) = some x := by
  have := rdI_at h
  simpa using this
theorem goes_eq (r : List Int) (hr : (r.length : Int) ≤ NM) (a b : Int) : I_goes r a b = some ((prs r).any (hop a b)) := by
  unfold I_goes
  refine any_prs (hop a b) r hr ?_ ?_
  · intro i x y hx hy hi
    have hlt := lt_of_get hy
    have hd : decide ((i : Int) + 1 < (r.length : Int)) = true := by simp; omega
    simp only [hd, cond_true, W_pred hi, rdI_at hx, rdI_succ hy, Option.bind_some, hop]
    simp only [NM] at hi
    rw [W_id (by omega) (by omega)]
    cases (x == a) <;> cases (y == b) <;> rfl
  · intro k hk
    simp [hk]
noncomputable def rsv (p : Prog) (k a b : Int) (s : Int) (y : Flow) : Int := cond (y.Class == 1) (cond ((prs (rt p k y)).any (hop a b)) (W (s + 1)) s) s
theorem bind_P {A B : Type} {o : Option A} {k : A → Option B} {Q : A → Prop} {P : Option B → Prop} (h : ∃ x, o = some x ∧ Q x) (h2 : ∀ x, Q x → P (k x)) : P (Option.bind o k) := by
  obtain ⟨x, rfl, hx⟩ := h
  exact h2 x hx
theorem reservedOn_same (p : Prog) (hp : okProgram NN p) (l : List Flow) (hl : okL NM (fun _ => True) l) (k a b : Int) : ∃ n, S_ReservedOn p l k a b = some n ∧ I_ReservedOn p l k a b = some n := by
  refine ⟨l.foldl (rsv p k a b) 0, ?_, ?_⟩
  · unfold S_ReservedOn
    refine (bind_of (fold_gen (rsv p k a b) 0 l hl ?_ (by intro s; simp))).trans rfl
    intro i z s hz _ hi
    have hlt := lt_of_get hz
    obtain ⟨r1, r2, r3, r4⟩ := routeIn_same p hp k z
    simp only [NM] at hi
    simp (disch := omega) only [rdI_at hz, hlt, W_id (x := (i : Int) + 1), decide_true, cond_true, Option.bind_some, Int.ofNat_lt, r1]
    unfold rsv
    cases hc : (z.Class == 1)
    · rfl
    · simp only [Bool.not_true, cond_false, cond_true]
      refine (bind_of (v := .inl ((prs (rt p k z)).foldl (fun s q => cond (hop a b q) (W (s + 1)) s) s, ())) (fold_prs (fun s q => cond (hop a b q) (W (s + 1)) s) s (rt p k z) r3 ?_ ?_)).trans ?_
      · intro i x y s hx hy hi
        have hlt := lt_of_get hy
        have hd : decide ((i : Int) + 1 < ((rt p k z).length : Int)) = true := by simp; omega
        simp only [hd, cond_true, W_pred hi, rdI_at hx, rdI_succ hy, Option.bind_some, hop]
        simp only [NM] at hi
        rw [W_id (x := (i : Int) + 1 + 1) (by omega) (by omega)]
        cases (x == a) <;> cases (y == b) <;> rfl
      · intro s k hk
        simp [hk]
      · rw [count_prs a b _ r4]
        rfl
  · unfold I_ReservedOn
    refine (bind_of (fold_gen (rsv p k a b) 0 l hl ?_ (by intro s; simp))).trans rfl
    intro i z s hz _ hi
    have hlt := lt_of_get hz
    obtain ⟨r1, r2, r3, r4⟩ := routeIn_same p hp k z
    simp only [NM] at hi
    simp (disch := omega) only [rdI_at hz, hlt, W_id (x := (i : Int) + 1), decide_true, cond_true, Option.bind_some, Int.ofNat_lt, r2, goes_eq _ r3]
    unfold rsv
    cases (z.Class == 1) <;> cases (prs (rt p k z)).any (hop a b) <;> rfl
theorem hasRoom_same (p : Prog) (hp : okProgram NN p) (l : List Flow) (hl : okL NM (fun _ => True) l) (f : Flow) (lim : Int) : ∃ b, S_HasRoom p l f lim = some b ∧ I_HasRoom p l f lim = some b := by
  have hlen := hp.1.1
  simp only [NN] at hlen
  have hR : ∀ k f, I_RouteIn p k f = S_RouteIn p k f := fun k f => by rw [(routeIn_same p hp k f).1, (routeIn_same p hp k f).2.1]
  have hV : ∀ k a b, I_ReservedOn p l k a b = S_ReservedOn p l k a b := fun k a b => by
    obtain ⟨n, h1, h2⟩ := reservedOn_same p hp l hl k a b
    rw [h1, h2]
  have e : I_HasRoom p l f lim = S_HasRoom p l f lim := by
    unfold I_HasRoom S_HasRoom
    simp only [hR, hV]
  rw [e]
  suffices h : ∃ b, S_HasRoom p l f lim = some b by
    obtain ⟨b, h⟩ := h
    exact ⟨b, h, h⟩
  unfold S_HasRoom
  simp only [fun k => (routeIn_same p hp k f).1, Option.bind_some]
  refine bind_P (Q := fun _ => True) (P := fun o => ∃ b, o = some b) ?_ (fun x _ => by
    rcases x with ⟨⟩ | b
    · exact ⟨true, rfl⟩
    · exact ⟨b, rfl⟩)
  refine iter_inv (fun i s => s = ((i : Int), ())) p.Pieces.length _ rfl ?_ ?_
  · rintro i s hi rfl
    obtain ⟨r1, r2, r3, r4⟩ := routeIn_same p hp i f
    simp only [NM] at r3
    have hd : decide ((i : Int) < (p.Pieces.length : Int)) = true := by simp; omega
    simp only [hd, cond_true]
    generalize rt p i f = r at r3
    refine bind_P (Q := fun (x : Unit ⊕ ((Int × Unit) ⊕ (Unit ⊕ Bool))) => x = .inl () ∨ ∃ b, x = .inr (.inr (.inr b))) (P := fun (o : Option ((Int × Unit) ⊕ (Unit ⊕ Bool))) => (∃ s', o = some (.inl s') ∧ s' = (((i + 1 : Nat) : Int), ())) ∨ ∃ x, o = some (.inr x) ∧ True) ?_ (fun x h => by
      rcases h with rfl | ⟨b, rfl⟩
      · refine .inl ⟨((i : Int) + 1, ()), ?_, rfl⟩
        simp only [sumE]
        rw [W_id (by omega) (by omega)]
      · exact .inr ⟨.inr b, rfl, trivial⟩)
    refine iter_inv (fun j s => s = ((j : Int) + 1, ())) (r.length - 1) _ rfl ?_ ?_
    · rintro j s hj rfl
      have hd : decide ((j : Int) + 1 < (r.length : Int)) = true := by simp; omega
      obtain ⟨x, hx, _⟩ := rdI_lt (xs := r) (k := (j : Int)) (by omega) (by omega)
      obtain ⟨y, hy, _⟩ := rdI_lt (xs := r) (k := (j : Int) + 1) (by omega) (by omega)
      obtain ⟨n, hn, _⟩ := reservedOn_same p hp l hl i x y
      simp only [hd, cond_true, W_pred (i := j) (by simp only [NM]; omega), hx, hy, hn, Option.bind_some]
      rw [W_id (x := (j : Int) + 1 + 1) (by omega) (by omega)]
      by_cases hg : n ≥ lim
      · exact .inr ⟨.inr (.inr (.inr false)), by simp [hg], .inr ⟨false, rfl⟩⟩
      · exact .inl ⟨((j : Int) + 1 + 1, ()), by simp [hg], by simp⟩
    · rintro s rfl
      have hd : decide ((((r.length - 1 : Nat) : Int)) + 1 < (r.length : Int)) = false := by simp; omega
      exact ⟨.inl (), by simp only [hd, cond_false], .inl rfl⟩
  · rintro s rfl
    exact ⟨.inl (), by simp, trivial⟩
theorem isFlow_same (f : Flow) (n : Int) : ∃ b, S_IsFlow f n = some b ∧ I_IsFlow f n = some b := by
  simp only [S_IsFlow, I_IsFlow, l1In_eq, InRange_eq, isIndex_eq, Option.bind_some, condF, ge_iff_le]
  refine ⟨_, rfl, ?_⟩
  simp only [Bool.and_assoc]
theorem fI_any {α : Type} (p : α → Bool) (xs : List α) : decide (fI p xs ≥ 0) = xs.any p := by
  unfold fI
  cases h : xs.findIdx? p with
  | none =>
    have : xs.any p = false := by
      rw [List.any_eq_false]
      intro x hx
      have := List.findIdx?_eq_none_iff.1 h x hx
      simp [this]
    rw [this]; simp
  | some i =>
    obtain ⟨h1, h2, _⟩ := List.findIdx?_eq_some_iff_getElem.1 h
    have : xs.any p = true := List.any_eq_true.2 ⟨_, List.getElem_mem h1, h2⟩
    rw [this]; simp
/-- Is there one? A loop that leaves with e. -/
theorem any_loop {α X : Type} {ok : α → Prop} {f : Int × Unit → Option ((Int × Unit) ⊕ (Unit ⊕ X))} (p : α → Bool) (e : X) (xs : List α) (hl : okL NM ok xs)
    (hf : ∀ (i : Nat) (x : α), xs[i]? = some x → (i : Int) < NM → f ((i : Int), ()) = cond (p x) (some (.inr (.inr e))) (some (.inl ((i : Int) + 1, ()))))
    (hf0 : f ((xs.length : Int), ()) = some (.inr (.inl ()))) : iter f (0, ()) = some (cond (xs.any p) (.inr e) (.inl ())) := by
  have hl := hl.1
  have key : ∀ (s pre : List α), xs = pre ++ s → iter f ((pre.length : Int), ()) = some (cond (s.any p) (.inr e) (.inl ())) := by
    intro s
    induction s with
    | nil =>
      intro pre h
      have : xs.length = pre.length := by rw [h]; simp
      rw [this] at hf0
      rw [iter_eq, hf0]
      rfl
    | cons x s ih =>
      intro pre h
      have hx : xs[pre.length]? = some x := by rw [h]; simp
      have hlt := lt_of_get hx
      rw [iter_eq, hf pre.length x hx (by simp only [NM] at hl ⊢; omega)]
      by_cases hp : p x = true
      · simp [hp]
      · have hp : p x = false := by simpa using hp
        have := ih (pre ++ [x]) (by rw [h]; simp)
        rw [len_cons1] at this
        simp only [hp, cond_false, this, List.any_cons, Bool.false_or]
  exact key xs [] rfl
theorem contains_eq (xs : List Int) (h : okL NM (fun _ => True) xs) (v : Int) : Contains_int xs v = some (xs.any fun y => y == v) := by
  unfold Contains_int Index_int
  rw [find_loop (fun y => y == v) xs h ?_ (by simp)]
  · rw [Option.bind_some, fI_any]
  · intro i x hx hi
    have hlt := lt_of_get hx
    simp only [NM] at hi
    simp (disch := omega) only [rdI_at hx, hlt, W_id, decide_true, cond_true, Option.bind_some, Int.ofNat_lt]
    have e : (v == x) = (x == v) := by
      by_cases hxy : v = x
      · simp [hxy]
      · have b1 : (v == x) = false := by simp [hxy]
        have b2 : (x == v) = false := by simp [Ne.symm hxy]
        rw [b1, b2]
    rw [e]
theorem l15Has_eq (xs : List Int) (h : okL NM (fun _ => True) xs) (v : Int) : S_l15Has xs v = some (xs.any fun y => y == v) := by
  unfold S_l15Has
  refine (bind_of (any_loop (fun y => y == v) true xs h ?_ (by simp))).trans ?_
  · intro i x hx hi
    have hlt := lt_of_get hx
    simp only [NM] at hi
    simp (disch := omega) only [rdI_at hx, hlt, W_id, decide_true, cond_true, Option.bind_some, Int.ofNat_lt]
  · cases xs.any _ <;> rfl
theorem isLanding_same (x : Law) (hx : okLaw NM x) (p : Prog) (n : Int) : ∃ b, S_IsLanding x p n = some b ∧ I_IsLanding x p n = some b := by
  simp only [S_IsLanding, I_IsLanding, l15Has_eq _ hx.1, contains_eq _ hx.1, isIndex_eq, Option.bind_some, ge_iff_le]
  cases decide (0 ≤ n) <;> cases decide (n < p.Nodes) <;> cases decide (n < p.First) <;> exact ⟨_, rfl, rfl⟩
theorem containsFunc_eq (xs : List Flow) (h : okL NM (fun _ => True) xs) (p : Flow → Bool) : ContainsFunc_Flow xs (fun a => some (p a.1)) = some (xs.any p) := by
  unfold ContainsFunc_Flow
  rw [IndexFunc_Flow_eq xs h p, Option.bind_some, fI_any]
theorem admitFlow_same (p : Prog) (hp : okProgram NN p) (l : List Flow) (hl : okL NM (fun _ => True) l) (f : Flow) (lim : Int) :
    ∃ l' b, S_AdmitFlow p l f lim = some (l', b) ∧ I_AdmitFlow p l f lim = some (l', b) ∧ okL NM (fun _ => True) l' := by
  obtain ⟨b1, h1, h2⟩ := isFlow_same f p.Nodes
  obtain ⟨b2, h3, h4⟩ := hasRoom_same p hp l hl f lim
  unfold S_AdmitFlow I_AdmitFlow
  simp only [app_nil hl, clone_ok hl, h1, h2, h3, h4, I_AdmitFlow_1, Option.map_some, Option.bind_some]
  cases b1
  · exact ⟨_, _, rfl, rfl, hl⟩
  simp only [Bool.not_true, cond_false]
  by_cases h8 : (l.length : Int) ≥ 8
  · simp only [h8, decide_true, cond_true]
    exact ⟨_, _, rfl, rfl, hl⟩
  simp only [h8, decide_false, cond_false]
  have e : ContainsFunc_Flow l (fun a3 => some (a3.1.Id == f.Id)) = some (l.any fun y => y.Id == f.Id) := containsFunc_eq l hl fun y => y.Id == f.Id
  rw [e, app_one (pre := l) rfl (by simp only [NM]; omega)]
  have e2 := fun (F : Int × Unit → Option ((Int × Unit) ⊕ (Unit ⊕ (List Flow × Bool)))) hf hf0 => any_loop (f := F) (fun (y : Flow) => y.Id == f.Id) (l, false) l hl hf hf0
  have hl' : okL NM (fun _ => True) (l ++ [f]) := ⟨by rw [len_cons1]; simp only [NM]; omega, fun _ _ => trivial⟩
  suffices h : (∃ l' b, Option.bind (some (cond (l.any fun y => y.Id == f.Id) (.inr (l, false)) (.inl ()) : Unit ⊕ (List Flow × Bool))) (sumE (fun e5 =>
      Option.bind (α := (Unit) ⊕ (List Flow × Bool)) (
        cond (f.Class == 1) (
          cond (!b2) (
            some (.inr (l, false))) (
            some (.inl ()))) (
          some (.inl ()))) (sumE (fun j7 =>
      some (l ++ [f], true)) some)) some) = some (l', b) ∧ Option.bind (α := (Unit) ⊕ (List Flow × Bool)) (cond (l.any fun y => y.Id == f.Id) (
          some (.inr (l, false))) (
          cond (f.Class == 1) (
            cond (!b2) (
              some (.inr (l, false))) (
              some (.inl ()))) (
            some (.inl ())))) (sumE (fun j7 => some (l ++ [f], true)) some) = some (l', b) ∧ okL NM (fun _ => True) l') by
    obtain ⟨l', b, k1, k2, k3⟩ := h
    refine ⟨l', b, ?_, k2, k3⟩
    rw [← k1]
    refine congrArg (fun o => Option.bind o _) (e2 _ ?_ (by simp))
    intro i x hx hi
    have hlt := lt_of_get hx
    simp only [NM] at hi
    simp (disch := omega) only [rdI_at hx, hlt, W_id, decide_true, cond_true, Option.bind_some, Int.ofNat_lt]
  cases (l.any fun y => y.Id == f.Id)
  · cases (f.Class == 1)
    · exact ⟨_, _, rfl, rfl, hl'⟩
    · cases b2
      · exact ⟨_, _, rfl, rfl, hl⟩
      · exact ⟨_, _, rfl, rfl, hl'⟩
  · exact ⟨_, _, rfl, rfl, hl⟩
theorem stepFlow_same (w : Wd) (f : Flow) (hw : okWorld NN w) : Same (S_StepFlow w f) (I_StepFlow w f) := by
  have hok := okW w hw
  obtain ⟨l', b, ha1, ha2, ha3⟩ := admitFlow_same w.Program hw.2.1 w.Flows hok.2.2.2.2.2.2.1 f 3
  obtain ⟨c, hc1, hc2⟩ := isLanding_same w.Law hok.2.2.1 w.Program f.Dst
  obtain ⟨h1, h2, h3, h4, h5, h6, h7, h8, h9, h10, h11, h12, _⟩ := hok
  have hok := okW w hw
  have n8 := hw.2.2.2.2.2.2.2.1.1
  have n9 := hw.2.2.2.2.2.2.2.2.1.1
  simp only [NN] at n8 n9
  simp only [S_StepFlow, I_StepFlow, l33_ok w hok, cloneWorld_ok w hok, ha1, ha2, hc1, hc2, Option.bind_some, app_one (pre := w.Counts) rfl (by simp only [NM]; omega), app_one (pre := w.Streams) rfl (by simp only [NM]; omega)]
  cases b
  · exact ⟨_, _, rfl, rfl, hok⟩
  cases c
  · exact ⟨_, _, rfl, rfl, hok⟩
  refine ⟨_, _, rfl, rfl, h1, h2, h3, h4, h5, h6, ha3, ⟨by rw [len_cons1]; simp only [NM]; omega, fun _ _ => trivial⟩, ⟨by rw [len_cons1]; simp only [NM]; omega, fun x hx => ?_⟩, h10, h11, h12, trivial⟩
  rcases List.mem_append.1 hx with hx | hx
  · exact h9.2 x hx
  · obtain rfl := List.mem_singleton.1 hx
    exact ⟨⟨by simp [NM], fun _ _ => trivial⟩, trivial⟩
theorem stepFlow_law (w : Wd) (x : Flow) (hp : preWorld w) : L_FnExactStepFlow w x = some true := by
  obtain ⟨r, hr, _, hok⟩ := sz_World w 1048576 hp (by decide) (by decide)
  unfold L_FnExactStepFlow
  rw [hr, Option.bind_some]
  by_cases h : r < 0
  · simp [h]
  have hw := hok (by omega)
  have hk := okW w hw
  obtain ⟨w', b, hS, hI, hk'⟩ := stepFlow_same w x hw
  obtain ⟨a1, m1, d1⟩ := mh_World w 1 hk (by decide) (room_World w hk)
  obtain ⟨a2, m2, d2⟩ := mh_World w' 1 hk' (by decide) (room_World w' hk')
  have g1 : decide (r < 0) = false := by simp; omega
  simp (disch := omega) only [g1, cond_false, to_World w hk, to_Flow, hS, hI, eq_World _ _ hk', eq_World _ _ hk, Option.bind_some, decide_true, Bool.not_true, BEq.rfl, m1, m2, d2, dec_neg]
end Net
