/- The law RecentRow returns true for every input and leaves its arguments as they were; conditions: none beyond the statement's own (the arguments' bulk is at most 1048576). -/
import Derived.Test.YtjddjjfcongnlaaRows
import Derived.Test.YtjddjjfcongnlaaRecentRow
import Derived.Test.YtjddjjfcongnlaaLawKit
import Derived.Deep.DeepHandedRow
import Derived.LaidMore
namespace Go.Proofs.Ytjddjjfcongnlaa.recentRowUpto
open Go.ChangeShapes Go.WideShapes Go.ChangeAt Go.RowKit
theorem own : ownKnob Try.prog.godebug = none := by kernel_rfl
theorem laidOut : laidOutB Try.prog = true := by kernel_rfl
noncomputable def wWorld : Os → World := (fun os => World.holding Try.prog os ⟨#[], #[], []⟩)
theorem wLaid (os : Os) : laidMetH Try.prog Rows.recentRowUptoRow.laid ((wWorld os).forCall (fun _ _ => 0) ⟨#[], #[.slice none 0 0, .int .i64 0], []⟩).memory :=
  laidMet_of_run' 8 (by kernel_rfl) (by kernel_rfl)
theorem reads (os : Os) {H : Type} (enc : TypeId × Value → H) : DataW.whole enc Try.prog ((wWorld os).forCall (fun _ _ => 0) ⟨#[], #[.slice none 0 0, .int .i64 0], []⟩).memory Try.f9.params.toList Rows.recentRowSpec.vars false (#[.slice none 0 0, .int .i64 0] : Array Value).toList 8 = some ([.nil, .lit (.int .i64 0)], [], []) := by kernel_rfl
set_option maxRecDepth 100000 in
theorem lifted (os : Os) (started : os.Started) (H : Type) (enc : TypeId × Value → H) (F : Stop.Interp) :
    ReturnsInHanded {} Try.checked os 9 .any ((Rows.OpenSpec.upto Rows.recentRowSpec).preRow enc Try.prog Try.f9 Rows.recentRowUptoRow.domain false Rows.recentRowUptoRow.laid) (((Rows.OpenSpec.upto Rows.recentRowSpec).at F).post enc Try.prog Try.f9 false true false false) := by
  have hx := reads os enc
  refine returnsInHanded_of_row (C := Try.checked) (s := (Rows.OpenSpec.upto Rows.recentRowSpec)) own started (by kernel_rfl) Try.func9
    (witness_row_at (enc := enc) (C := Try.checked) false (wWorld os) #[.slice none 0 0, .int .i64 0] rfl (by kernel_rfl) (by kernel_rfl) (by kernel_rfl)
      (OpenSpec.preRow_of_cond 8 hx (by kernel_rfl) (fun k hk => by cases hk; kernel_rfl) (by kernel_rfl) (wLaid os))) ?_
  intro W base args ds gs before hval hW _ hcnd hz hL _ _
  have hW2 : DataW.Whole enc Try.prog Try.f9.params.toList Rows.recentRowSpec.vars false W args.toList ds gs before := hW
  obtain ⟨p, q, hA, hV, _, _, _⟩ := hW
  obtain ⟨rfl, rfl⟩ := trodVars_none hV
  refine (core enc W base args ds p hval hA (by simpa using hcnd _ rfl) ).mono fun e W' ⟨he, hb⟩ => ?_
  subst he
  exact ⟨_, rfl, law_post (tb := 4) laidOut rfl (fun l hl => by match l, hl with
    | [_, _], _ => rfl) rfl Try.underlying4 (by kernel_rfl) hW2 hb⟩
theorem said : Rows.RecentRowUptoSaid :=
  OpenClaim.holds_of_cond 9 Try.f9 rfl rfl rfl rfl rfl rfl rfl ⟨rfl, rfl, rfl, rfl, rfl⟩ rfl rfl rfl rfl rfl (by kernel_rfl) Try.func9 (by kernel_rfl)
    (of_decide_eq_true (by kernel_rfl)) (by unfold Func.isWrapper; first | (rw [if_pos (by decide +kernel)]; kernel_rfl) | (rw [if_neg (by decide +kernel)]; exact ⟨rfl, rfl⟩))
    (fun os started H enc _ F => by rw [OpenClaim.pre_eq_preRow]; exact lifted os started H enc F)
end Go.Proofs.Ytjddjjfcongnlaa.recentRowUpto
