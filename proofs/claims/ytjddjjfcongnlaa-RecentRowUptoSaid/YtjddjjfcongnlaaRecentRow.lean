/- The core of RecentRow: whatever the arguments, the call returns true and leaves all old memory; condition: the arguments' bulk is at most 1048576. -/
import Derived.Test.YtjddjjfcongnlaaRowLaw
import Derived.Test.YtjddjjfcongnlaaBulkActs
namespace Go.Proofs.Ytjddjjfcongnlaa.recentRowUpto
open Go.ChangeShapes Go.WideShapes Go.ChangeAt Go.RowKit
set_option maxRecDepth 100000 in
theorem core {H : Type} (enc : TypeId × Value → H) (W : World) (base : Nat) (args : Array Value) (ds : List (DataW H)) (p : List MemPlace)
    (hval : ∀ (j : Nat) t v, Try.f9.params[j]? = some t → args[j]? = some v → Value.okWide Try.prog W .any base t v)
    (hA : DataW.TrodAll enc Try.prog W 0 (fun _ => true) true Try.f9.params.toList args.toList ds p)
    (hk : Rows.uptoSmall H ds = true) :
    Calls Try.prog 9 args W fun e W' => e = .returned (.bool true) ∧ Below W.heap.size W W' := by
  rw [Try.params9] at hA hval
  obtain ⟨v0, vs0, d0, ds0, p0, q0, hargs, rfl, rfl, h0, r0⟩ := trodAll_cons hA
  obtain ⟨v1, vs1, d1, ds1, p1, q1, rfl, rfl, rfl, h1, r1⟩ := trodAll_cons r0
  obtain ⟨rfl, rfl, rfl⟩ := trodAll_nil r1
  obtain rfl : args = #[v0, v1] := by cases args; simp_all
  obtain ⟨A, m, c, l, rfl, hl, hR, hok, hmc, hcm⟩ := open_acts Try.underlying37 Try.underlying45 (by kernel_rfl) (by kernel_rfl) rfl rfl rfl rfl Try.underlying3 (hval 0 37 v0 rfl rfl) h0
  obtain ⟨n, rfl, rfl, rfl, wn⟩ := open_int Try.underlying3 (hval 1 3 v1 rfl rfl) h1
  have hb := bulk_acts Try.underlying37 h0
  have hbk := bulks.bound hk
  simp only [Rows.uptoBulkAll] at hbk
  exact rowLaw_any A m c l n W hl hR hok (bounds_i64 wn) (by omega)
end Go.Proofs.Ytjddjjfcongnlaa.recentRowUpto
