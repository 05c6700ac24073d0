/- Of no program. An append leaves every other row as it is, and the row that it grows from. By this session. -/
import Derived.Test.YtiajmngjhbckjaaDoorMore
import Derived.Maps.AppendAt
import Derived.OneCell
namespace Go.Proofs.YtiajmngjhbckjaaDoor
open Go.RowKit
theorem run_append_keep {P : Program} (w : World) (base : Nat) (t ty e : TypeId) (i : TypeInfo) (z : Value) (bytes : Nat) (ht : P.underlying t = some (.slice e)) (hi : P.info? e = some i) (hz : i.zero = some z)
    (hsize : i.size = 1) (hby : i.bytes = bytes) (hzs : z.cells.size = 1)
    (v : Value) (n : Nat) (xs : List Value) (hown : w.ownsRow base e 1 v n xs)
    (ad : Addr) (c : Nat) (u : Value) (hr : ∀ j u', [u][j]? = some u' → w.cell? (ad.add j) = some u') (h1 : u.oneCell' = true)
    (h63 : n + 1 ≤ maxLen) (hbytes : (n + 1) * bytes ≤ 140737488355328) (hbase : base ≤ w.heap.size) :
    ∃ v' w', (Builtin.append_ #[t, t] ty #[v, .slice (some ad) 1 c]).run P w = .ok v' w' ∧ w'.ownsRow base e 1 v' (n + 1) (xs ++ [u]) ∧ w.grownBy w' v.ownBlock ∧
      (v'.ownBlock = v.ownBlock ∨ v'.ownBlock = some w.heap.size) ∧
      ∀ base0 v0 n0 xs0, w.ownsRow base0 e 1 v0 n0 xs0 → (v0.ownBlock = v.ownBlock → n0 ≤ n) → w'.ownsRow base0 e 1 v0 n0 xs0 := by
  have h1' : ∀ x ∈ [u], x.oneCell' = true := by intro x hx; rw [List.mem_singleton.1 hx]; exact h1
  obtain ⟨v', w', hrun, h2, h3, _, h5⟩ := run_append_own_at (P := P) w base t ty e i z 1 bytes ht hi hz hsize hby hzs (by omega) v n xs hown ad 1 c [u] rfl hr h1' h63 hbytes hbase
  refine ⟨v', w', hrun, h2, h3, h5, fun base0 v0 n0 xs0 h0 hle => ?_⟩
  by_cases hb : v0.ownBlock = none ∨ v0.ownBlock ≠ v.ownBlock
  · exact h0.kept h3 hb
  · have hb1 : v0.ownBlock ≠ none := fun h => hb (.inl h)
    have hb2 : v0.ownBlock = v.ownBlock := Classical.byContradiction fun h => hb (.inr h)
    have hn0 := hle hb2
    rcases h0.2 with ⟨rfl, _⟩ | ⟨g0, cap0, cur0, rfl, hbg0, hg0, hnc0, hcm0, hcs0, htake0⟩
    · exact absurd rfl hb1
    rcases hown.2 with ⟨rfl, _⟩ | ⟨g, cap, cur, rfl, hbg, hg, hnc, hcm, hcs, htake⟩
    · exact absurd hb2 (by simp [Value.ownBlock])
    obtain rfl : g0 = g := by simpa [Value.ownBlock] using hb2
    rw [hg] at hg0
    injection hg0 with hg0
    injection hg0 with hg0 _ _
    subst hg0
    by_cases hroom : n + 1 ≤ cap
    · have hfit : n * i.size + [u].length ≤ cur.size := by rw [hsize, hcs]; simpa using hroom
      have hr' := run_append_room (P := P) w t ty e i ht hi g0 n cap cur hg ad 1 c [u] (by rw [hsize]; rfl) hr h1' hroom hfit
      rw [hrun] at hr'
      injection hr' with e1 e2
      subst e1
      rcases h2.2 with ⟨e3, _⟩ | ⟨g', cap', cur', e3, hbg', hg', hnc', hcm', hcs', htake'⟩
      · cases e3
      injection e3 with e4 _ e5
      injection e4 with e4
      injection e4 with e4 _ _
      subst e4 e5
      refine ⟨h0.1, .inr ⟨g0, cap0, cur', rfl, hbg0, hg', hnc0, hcm0, by omega, ?_⟩⟩
      rw [← htake0]
      have e6 : (cur'.toList.take ((n + 1) * 1)).take (n0 * 1) = cur'.toList.take (n0 * 1) := by rw [List.take_take]; congr 1; omega
      have e7 : (cur.toList.take (n * 1)).take (n0 * 1) = cur.toList.take (n0 * 1) := by rw [List.take_take]; congr 1; omega
      rw [← e6, htake', ← e7, htake, List.take_append_of_le_length]
      have := hown.1
      omega
    · have holds : ∀ j u, xs[j]? = some u → w.cell? ((⟨g0, 0, none⟩ : Addr).add j) = some u := hown.cells (g := g0) rfl
      have hsmall : n + 1 ≤ 9223372036854775807 := by simp only [maxLen] at h63; omega
      have hr' := run_append_grow (P := P) w t ty e i z ht hi hz ⟨g0, 0, none⟩ n cap xs (by rw [hsize]; exact hown.1) holds ad 1 c [u] (by rw [hsize]; rfl) hr (by omega) (by omega) (growslice_fits (by omega) (by rw [hby]; exact hbytes))
      rw [hrun] at hr'
      injection hr' with e1 e2
      subst e2
      exact h0.drew.alloc _
theorem wpList_append_keep {P : Program} {ops : Array Oper} {rest : List Oper} {o : Oper} {a : Act} {w : World} {Q : Exit → Act → World → Prop} (hgd : o.guard = none) (s x : Operand) (t : TypeId)
    (ho : o.op = .call { callee := .builtin .append, args := #[s, x], argTypes := #[t, t] })
    (base : Nat) (e : TypeId) (i : TypeInfo) (z : Value) (bytes : Nat) (ht : P.underlying t = some (.slice e)) (hi : P.info? e = some i) (hz : i.zero = some z)
    (hsize : i.size = 1) (hby : i.bytes = bytes) (hzs : z.cells.size = 1)
    (v : Value) (n : Nat) (xs : List Value) (hs : a.eval s = v) (hown : w.ownsRow base e 1 v n xs)
    (ad : Addr) (c : Nat) (u : Value) (hx : a.eval x = .slice (some ad) 1 c) (hr : ∀ j u', [u][j]? = some u' → w.cell? (ad.add j) = some u') (h1 : u.oneCell' = true)
    (h63 : n + 1 ≤ maxLen) (hbytes : (n + 1) * bytes ≤ 140737488355328) (hbase : base ≤ w.heap.size)
    (h : ∀ v' w', w'.ownsRow base e 1 v' (n + 1) (xs ++ [u]) → w.grownBy w' v.ownBlock → (v'.ownBlock = v.ownBlock ∨ v'.ownBlock = some w.heap.size) →
      (∀ base0 v0 n0 xs0, w.ownsRow base0 e 1 v0 n0 xs0 → (v0.ownBlock = v.ownBlock → n0 ≤ n) → w'.ownsRow base0 e 1 v0 n0 xs0) → wpList P ops Q rest (a.put o.dst v') w') :
    wpList P ops Q (o :: rest) a w := by
  refine wpList_plain hgd fun K hK => ?_
  obtain ⟨v', w', hrun, h2, h3, h4, h5⟩ := run_append_keep (P := P) w base t o.type e i z bytes ht hi hz hsize hby hzs v n xs hown ad c u hr h1 h63 hbytes hbase
  unfold Oper.wp execOp
  simp only [ho, resolve, invoke, builtin, Sem.run_bind, Sem.run_pure, Result.andThen_ok, List.map_toArray, List.map_cons, List.map_nil, hs, hx, hrun]
  exact hK _ _ (h v' w' h2 h3 h4 h5)
/-- A cell of an owned row written. -/
theorem own_set {w : World} {base : Nat} {e : TypeId} {n : Nat} {v : Value} {xs : List Value} (h : w.ownsRow base e 1 v n xs) {g k : Nat} (hg : v.ownBlock = some g) (u : Value) :
    (w.setCell ((⟨g, 0, none⟩ : Addr).add k) u).ownsRow base e 1 v n (xs.set k u) := by
  rcases h.2 with ⟨rfl, _⟩ | ⟨g0, cap, cur, rfl, hbg, hh, hnc, hcm, hcs, htake⟩
  · cases hg
  obtain rfl : g0 = g := by simpa [Value.ownBlock] using hg
  have hlt := lt_of_block hh
  have h' : w.heap[g0] = .cells cur e (0, 0) := by simpa [Array.getElem?_eq_getElem hlt] using hh
  refine ⟨by simpa using h.1, .inr ⟨g0, cap, cur.setIfInBounds k u, rfl, hbg, ?_, hnc, hcm, by simpa using hcs, ?_⟩⟩
  · rw [Addr.add_lit, Nat.zero_add]
    show (w.heap.modify g0 _)[g0]? = _
    rw [Array.getElem?_eq_getElem (by simpa using hlt), Array.getElem_modify_self, h']
    rfl
  · rw [← htake]
    simp [Array.toList_setIfInBounds, List.take_set]
end Go.Proofs.YtiajmngjhbckjaaDoor
