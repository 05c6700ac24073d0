/- The law RuleNamed returns true for every input and leaves its arguments as they were; conditions: none beyond the statement's own. -/
import Derived.Test.YtnnedmkidbokoaaDoorCards
import Derived.Test.YtnnedmkidbokoaaDoorTie
import Derived.Test.YtnnedmkidbokoaaDoorRuleNamed
import Derived.Test.YtnnedmkidbokoaaDoorLawKit
import Derived.Deep.DeepHandedRow
import Derived.LaidMore
namespace Go.Proofs.YtnnedmkidbokoaaDoor.ruleNamed
open Go.ChangeShapes Go.WideShapes Go.ChangeAt Go.RowKit
theorem own : ownKnob Tryd.prog.godebug = none := by kernel_rfl
theorem laidOut : laidOutB Tryd.prog = true := by kernel_rfl
noncomputable def wWorld : Os → World := World.doorLaid Tryd.prog 400
theorem wLaid (os : Os) : laidMetH Tryd.prog Rows.ruleNamedRow.laid ((wWorld os).forCall (fun _ _ => 0) ⟨#[], #[.int .i64 0, .int .u16 0, .int .u16 0, .int .u32 0], []⟩).memory :=
  laidMet_of_run' 8 (by kernel_rfl) (by kernel_rfl)
theorem reads (os : Os) {H : Type} (enc : TypeId × Value → H) : DataW.whole enc Tryd.prog ((wWorld os).forCall (fun _ _ => 0) ⟨#[], #[.int .i64 0, .int .u16 0, .int .u16 0, .int .u32 0], []⟩).memory Tryd.f5.params.toList Rows.ruleNamedSpec.vars false (#[.int .i64 0, .int .u16 0, .int .u16 0, .int .u32 0] : Array Value).toList 8 = some ([.lit (.int .i64 0), .lit (.int .u16 0), .lit (.int .u16 0), .lit (.int .u32 0)], [], []) := by kernel_rfl
set_option maxRecDepth 100000 in
theorem lifted (os : Os) (started : os.Started) (H : Type) (enc : TypeId × Value → H) (F : Stop.Interp) :
    ReturnsInHanded {} Tryd.checked os 5 .any ((OpenSpec.ofChange Rows.ruleNamedSpec).preRow enc Tryd.prog Tryd.f5 Rows.ruleNamedRow.domain false Rows.ruleNamedRow.laid) (((OpenSpec.ofChange Rows.ruleNamedSpec).at F).post enc Tryd.prog Tryd.f5 false true false false) := by
  have hx := reads os enc
  refine returnsInHanded_of_row (C := Tryd.checked) (s := (OpenSpec.ofChange Rows.ruleNamedSpec)) own started (by kernel_rfl) Tryd.func5
    (witness_row_at (enc := enc) (C := Tryd.checked) false (wWorld os) #[.int .i64 0, .int .u16 0, .int .u16 0, .int .u32 0] rfl (by kernel_rfl) (by kernel_rfl) (by kernel_rfl)
      (OpenSpec.preRow_of_cond 8 hx (by kernel_rfl) (fun k hk => by cases hk) (by kernel_rfl) (wLaid os))) ?_
  intro W base args ds gs before hval hW _ _ hz hL _ _
  have hW2 : DataW.Whole enc Tryd.prog Tryd.f5.params.toList Rows.ruleNamedSpec.vars false W args.toList ds gs before := hW
  obtain ⟨p, q, hA, hV, _, _, _⟩ := hW
  obtain ⟨rfl, rfl⟩ := trodVars_none hV
  refine (core enc W base args ds p hval hA hL ).mono fun e W' ⟨he, hb⟩ => ?_
  subst he
  exact ⟨_, rfl, law_post (tb := 4) laidOut rfl (fun l hl => by match l, hl with
    | [_, _, _, _], _ => rfl) rfl Tryd.underlying4 (by kernel_rfl) hW2 hb⟩
theorem said : Rows.RuleNamedSaid :=
  OpenClaim.holds_of_cond 5 Tryd.f5 rfl rfl rfl rfl rfl rfl rfl ⟨rfl, rfl, rfl, rfl, rfl⟩ rfl rfl rfl rfl rfl (by kernel_rfl) Tryd.func5 (by kernel_rfl)
    (of_decide_eq_true (by kernel_rfl)) (by unfold Func.isWrapper; first | (rw [if_pos (by decide +kernel)]; kernel_rfl) | (rw [if_neg (by decide +kernel)]; exact ⟨rfl, rfl⟩))
    (fun os started H enc _ F => by rw [OpenClaim.pre_eq_preRow]; exact lifted os started H enc F)
theorem plain (f : FuncId) (fn : Func) (hf : Tryd.pinned.checked.prog.funcNamed "spindle/spindlelaw11.RuleNamed" = some f) (hfn : Tryd.pinned.checked.prog.funcs[f]? = some fn) :
    false = Tryd.pinned.checked.prog.looks [] ∧ ∀ (j : Nat) t, fn.params[j]? = some t → Tryd.pinned.checked.prog.wantsStandIn t = false := by
  obtain rfl : f = 5 := Option.some.inj ((show Tryd.prog.funcNamed "spindle/spindlelaw11.RuleNamed" = some 5 by kernel_rfl).symm.trans hf) |>.symm
  obtain rfl : fn = Tryd.f5 := (Option.some.inj (Tryd.func5.symm.trans hfn)).symm
  refine ⟨by kernel_rfl, fun j t ht => ?_⟩
  rw [Tryd.params5] at ht
  have hall : (#[3, 22, 22, 25] : Array TypeId).toList.all (fun t => Tryd.prog.wantsStandIn t == false) = true := by kernel_rfl
  have := List.all_eq_true.1 hall t (by simpa using Array.mem_of_getElem? ht)
  exact beq_iff_eq.1 this
theorem card : Rows.RuleNamedCardSaid :=
  Claim7.holds_tied_plain_at .later [] _ _ _ _ said (fun _ h => by cases h) (by kernel_rfl) (fun _ h => by cases h) ruleNamed_row_tie rfl ⟨rfl, rfl⟩ (by kernel_rfl) rfl plain (by kernel_rfl)
end Go.Proofs.YtnnedmkidbokoaaDoor.ruleNamed
