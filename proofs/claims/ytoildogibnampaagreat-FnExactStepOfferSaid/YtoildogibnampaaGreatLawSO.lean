/- The row of the law FnExactStepOffer: for all arguments the law returns true, and what was there stays as it was. No condition beyond the row's own. -/
import Derived.Test.YtoildogibnampaaGreatNG
import Derived.Test.YtoildogibnampaaGreatBaseI
namespace Go.Proofs.YtoildogibnampaaGreat
open Go Go.RowKit Net
set_option maxRecDepth 100000

theorem own_4 : ownKnob Tryz.prog.godebug = none := by kernel_rfl
theorem laidOut_4 : laidOutB Tryz.prog = true := by kernel_rfl

theorem true_4 : ∀ x : Args (psOf [(41, (.st .world)), (3, I64)]), OkA [(41, (.st .world)), (3, I64)] x → L_FnExactStepOffer x.1 x.2.1 = some true := fun x h => stepOffer_law x.1 x.2.1 (preWorld_of _ h.1)

theorem lifted_4 (os : Os) (started : os.Started) (H : Type) (enc : TypeId × Value → H) :
    ReturnsInHanded {} Tryz.checked os 4 .any (Rows.fnExactStepOfferSpec.pre6 enc Tryz.prog Tryz.f4 Rows.fnExactStepOfferRow.domain false) (Rows.fnExactStepOfferSpec.post enc Tryz.prog Tryz.f4 false true false false) := by
  refine returnsInHanded_of_change (C := Tryz.checked) own_4 started (by kernel_rfl) Tryz.func4
    (ChangeSpec.witness6 (enc := enc) (C := Tryz.checked) false ⟨#[], #[mkV (.st .world) (zc (.st .world)), mkV I64 (zc I64)], []⟩ 20 (by kernel_rfl) (by kernel_rfl) (by kernel_rfl) (by kernel_rfl)) ?_
  intro W base args ds gs before hval hW hcnd _
  exact law_calls (tys := tys) tysOK laidOut_4 (ts := [(41, (.st .world)), (3, I64)]) (Tb := 4) g4 (fun _ => rfl) true_4 (by intro q hq; simp only [List.mem_cons, List.not_mem_nil, or_false] at hq; rcases hq with rfl | rfl <;> rfl) rfl rfl Tryz.underlying4 rfl
    (by intro ds hd; match ds, hd with | [d0, d1], _ => rfl) (by intro T hT; simp only [List.map_cons, List.map_nil, List.mem_cons, List.not_mem_nil, or_false] at hT; rcases hT with rfl | rfl <;> exact ⟨by kernel_rfl, of_decide_eq_true (by kernel_rfl)⟩) hval hW

theorem fnExactStepOffer_holds : Rows.FnExactStepOfferSaid :=
  OpenClaim.holds_of_wide 4 Tryz.f4 rfl rfl rfl rfl rfl rfl rfl ⟨rfl, rfl, rfl, rfl, rfl⟩ rfl rfl rfl rfl rfl (by kernel_rfl) Tryz.func4 (by kernel_rfl)
    (of_decide_eq_true (by kernel_rfl)) (by unfold Func.isWrapper; first | (rw [if_pos (by decide +kernel)]; kernel_rfl) | (rw [if_neg (by decide +kernel)]; exact ⟨rfl, rfl⟩))
    (fun os started H enc _ => lifted_4 os started H enc)
end Go.Proofs.YtoildogibnampaaGreat
