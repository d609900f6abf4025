/- The row of the law on StepFault. -/
import Derived.Test.YtoildogibnampaaGreatNG
import Derived.Test.YtoildogibnampaaGreatBaseH
namespace Go.Proofs.YtoildogibnampaaGreat
open Go Go.RowKit Net
set_option maxRecDepth 100000

theorem own_ : ownKnob Tryz.prog.godebug = none := by kernel_rfl
theorem laidOut_ : laidOutB Tryz.prog = true := by kernel_rfl

theorem stepFault_true : ∀ x : Args (psOf [(41, .st .world), (43, .st .fault)]), OkA [(41, .st .world), (43, .st .fault)] x → L_FnExactStepFault x.1 x.2.1 = some true := fun x h => stepFault_law x.1 x.2.1 (preWorld_of _ h.1) (nodes_of _ h.1)

theorem f_lifted (os : Os) (started : os.Started) (H : Type) (enc : TypeId × Value → H) :
    ReturnsInHanded {} Tryz.checked os 3 .any (Rows.fnExactStepFaultSpec.pre6 enc Tryz.prog Tryz.f3 Rows.fnExactStepFaultRow.domain false) (Rows.fnExactStepFaultSpec.post enc Tryz.prog Tryz.f3 false true false false) := by
  refine returnsInHanded_of_change (C := Tryz.checked) own_ started (by kernel_rfl) Tryz.func3
    (ChangeSpec.witness6 (enc := enc) (C := Tryz.checked) false ⟨#[], #[mkV (.st .world) (zc (.st .world)), mkV (.st .fault) (zc (.st .fault))], []⟩ 20 (by kernel_rfl) (by kernel_rfl) (by kernel_rfl) (by kernel_rfl)) ?_
  intro W base args ds gs before hval hW hcnd _
  exact law_calls (tys := tys) tysOK laidOut_ (ts := [(41, .st .world), (43, .st .fault)]) (Tb := 4) g3 (fun _ => rfl) stepFault_true (by intro q hq; rcases List.mem_cons.1 hq with rfl | hq; rfl; rcases List.mem_cons.1 hq with rfl | hq; rfl; cases hq) rfl rfl Tryz.underlying4 rfl
    (by intro ds hd; match ds, hd with | [d1, d2], _ => rfl) (by intro T hT; simp only [List.map_cons, List.map_nil, List.mem_cons, List.not_mem_nil, or_false] at hT; rcases hT with rfl | rfl <;> exact ⟨by kernel_rfl, of_decide_eq_true (by kernel_rfl)⟩) hval hW

theorem fnExactStepFault_holds : Rows.FnExactStepFaultSaid :=
  OpenClaim.holds_of_wide 3 Tryz.f3 rfl rfl rfl rfl rfl rfl rfl ⟨rfl, rfl, rfl, rfl, rfl⟩ rfl rfl rfl rfl rfl (by kernel_rfl) Tryz.func3 (by kernel_rfl)
    (of_decide_eq_true (by kernel_rfl)) (by unfold Func.isWrapper; first | (rw [if_pos (by decide +kernel)]; kernel_rfl) | (rw [if_neg (by decide +kernel)]; exact ⟨rfl, rfl⟩))
    (fun os started H enc _ => f_lifted os started H enc)
end Go.Proofs.YtoildogibnampaaGreat
