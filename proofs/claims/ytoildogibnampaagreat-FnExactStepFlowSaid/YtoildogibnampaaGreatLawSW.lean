/- The row of the law FnExactStepFlow: for all arguments the law returns true, and what was there stays as it was. No condition beyond the row's own. -/
import Derived.Test.YtoildogibnampaaGreatNG
import Derived.Test.YtoildogibnampaaGreatBaseI
namespace Go.Proofs.YtoildogibnampaaGreat
open Go Go.RowKit Net
set_option maxRecDepth 100000

theorem own_5 : ownKnob Tryz.prog.godebug = none := by kernel_rfl
theorem laidOut_5 : laidOutB Tryz.prog = true := by kernel_rfl

theorem true_5 : ∀ x : Args (psOf [(41, (.st .world)), (74, (.st .flow))]), OkA [(41, (.st .world)), (74, (.st .flow))] x → L_FnExactStepFlow x.1 x.2.1 = some true := fun x h => stepFlow_law x.1 x.2.1 (preWorld_of _ h.1)

theorem lifted_5 (os : Os) (started : os.Started) (H : Type) (enc : TypeId × Value → H) :
    ReturnsInHanded {} Tryz.checked os 5 .any (Rows.fnExactStepFlowSpec.pre6 enc Tryz.prog Tryz.f5 Rows.fnExactStepFlowRow.domain false) (Rows.fnExactStepFlowSpec.post enc Tryz.prog Tryz.f5 false true false false) := by
  refine returnsInHanded_of_change (C := Tryz.checked) own_5 started (by kernel_rfl) Tryz.func5
    (ChangeSpec.witness6 (enc := enc) (C := Tryz.checked) false ⟨#[], #[mkV (.st .world) (zc (.st .world)), mkV (.st .flow) (zc (.st .flow))], []⟩ 20 (by kernel_rfl) (by kernel_rfl) (by kernel_rfl) (by kernel_rfl)) ?_
  intro W base args ds gs before hval hW hcnd _
  exact law_calls (tys := tys) tysOK laidOut_5 (ts := [(41, (.st .world)), (74, (.st .flow))]) (Tb := 4) g5 (fun _ => rfl) true_5 (by intro q hq; simp only [List.mem_cons, List.not_mem_nil, or_false] at hq; rcases hq with rfl | rfl <;> rfl) rfl rfl Tryz.underlying4 rfl
    (by intro ds hd; match ds, hd with | [d0, d1], _ => rfl) (by intro T hT; simp only [List.map_cons, List.map_nil, List.mem_cons, List.not_mem_nil, or_false] at hT; rcases hT with rfl | rfl <;> exact ⟨by kernel_rfl, of_decide_eq_true (by kernel_rfl)⟩) hval hW

theorem fnExactStepFlow_holds : Rows.FnExactStepFlowSaid :=
  OpenClaim.holds_of_wide 5 Tryz.f5 rfl rfl rfl rfl rfl rfl rfl ⟨rfl, rfl, rfl, rfl, rfl⟩ rfl rfl rfl rfl rfl (by kernel_rfl) Tryz.func5 (by kernel_rfl)
    (of_decide_eq_true (by kernel_rfl)) (by unfold Func.isWrapper; first | (rw [if_pos (by decide +kernel)]; kernel_rfl) | (rw [if_neg (by decide +kernel)]; exact ⟨rfl, rfl⟩))
    (fun os started H enc _ => lifted_5 os started H enc)
end Go.Proofs.YtoildogibnampaaGreat
