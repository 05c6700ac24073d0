/- More words for memory: an append that fits, the block known whole; of no program. By this session. -/
import Derived.Test.YtiajmngjhbckjaaDoorWords
import Derived.WalkKit
namespace Go.Proofs.YtiajmngjhbckjaaDoor
open Go.RowKit
section
variable {P : Program} (w : World)
/-- What lies in a block behind m cells written from place n on. -/
def splice (cur : Array Value) (n : Nat) (news : List Value) : Array Value := (cur.toList.take n ++ news ++ cur.toList.drop (n + news.length)).toArray
theorem splice_size {cur : Array Value} {n : Nat} {news : List Value} (h : n + news.length ≤ cur.size) : (splice cur n news).size = cur.size := by
  simp [splice]; omega
theorem run_append_fits' (t ty e : TypeId) (i : TypeInfo) (size : Nat) (ht : P.underlying t = some (.slice e)) (hi : P.info? e = some i) (hsize : i.size = size)
    (g n cap : Nat) (cur : Array Value) (hg : Blk w g e cur) (B : Nat) (A : Option Addr) (m c : Nat) (news : List Value) (hr : Reads w B size A m news) (h1 : ∀ u ∈ news, u.oneCell' = true)
    (hnc : n ≤ cap) (hroom : n + m ≤ cap) (hfit : cap * size ≤ cur.size) :
    ∃ w', (Builtin.append_ #[t, t] ty #[.slice (some ⟨g, 0, none⟩) n cap, .slice A m c]).run P w = .ok (.slice (some ⟨g, 0, none⟩) (n + m) cap) w' ∧ Blk w' g e (splice cur (n * size) news) ∧ w.grownBy w' (some g) := by
  subst hsize
  have hl := hr.1
  have hle : n * i.size + m * i.size ≤ cap * i.size := by rw [← Nat.add_mul]; exact Nat.mul_le_mul_right _ hroom
  rcases A with _ | ad
  · have hm : m = 0 := by
      rcases Nat.eq_zero_or_pos m with h0 | h0
      · exact h0
      · obtain ⟨ad, h, _⟩ := hr.2 h0
        cases h
    subst hm
    have hn : news = [] := List.eq_nil_of_length_eq_zero (by simpa using hl)
    subst hn
    refine ⟨w, ?_, ?_, World.grownBy.refl w _⟩
    · simp [Builtin.append_, run_underlying ht, sizeOf, typeInfo, hi, Builtin.lenOf, Builtin.firstCells, hnc, storeCells]
    · simpa [splice] using hg
  · have hcells : ∀ j u, news[j]? = some u → w.cell? (ad.add j) = some u := by
      intro j u hu
      rcases Nat.eq_zero_or_pos m with h0 | h0
      · subst h0
        have hn : news = [] := List.eq_nil_of_length_eq_zero (by simpa using hl)
        subst hn
        simp at hu
      · obtain ⟨ad', h, _, hc⟩ := hr.2 h0
        injection h with h
        subst h
        exact hc j u hu
    have hrun := run_append_room (P := P) w t ty e i ht hi g n cap cur hg ad m c news hl hcells h1 hroom (by omega)
    exact ⟨_, hrun, setRow_heap w g cur _ e _ hg, ⟨rfl, rfl, rfl, by simp, fun k _ hk => setRow_other w g k _ (fun e => hk (by simp [e]))⟩⟩
theorem wpList_append_fits {ops : Array Oper} {rest : List Oper} {o : Oper} {a : Act} {Q : Exit → Act → World → Prop} (hgd : o.guard = none) (s x : Operand) (t : TypeId)
    (ho : o.op = .call { callee := .builtin .append, args := #[s, x], argTypes := #[t, t] })
    (e : TypeId) (i : TypeInfo) (size : Nat) (ht : P.underlying t = some (.slice e)) (hi : P.info? e = some i) (hsize : i.size = size)
    (g n cap : Nat) (cur : Array Value) (hs : a.eval s = .slice (some ⟨g, 0, none⟩) n cap) (hg : Blk w g e cur) (B : Nat) (A : Option Addr) (m c : Nat) (news : List Value) (hx : a.eval x = .slice A m c) (hr : Reads w B size A m news) (h1 : ∀ u ∈ news, u.oneCell' = true)
    (hnc : n ≤ cap) (hroom : n + m ≤ cap) (hfit : cap * size ≤ cur.size)
    (h : ∀ w', Blk w' g e (splice cur (n * size) news) → w.grownBy w' (some g) → wpList P ops Q rest (a.put o.dst (.slice (some ⟨g, 0, none⟩) (n + m) cap)) w') : wpList P ops Q (o :: rest) a w := by
  refine wpList_plain hgd fun _ hK => ?_
  obtain ⟨w', hrun, h2, h3⟩ := run_append_fits' (P := P) w t o.type e i size ht hi hsize g n cap cur hg B A m c news hr h1 hnc hroom hfit
  unfold Oper.wp execOp
  simp only [ho, resolve, invoke, builtin, Sem.run_bind, Sem.run_pure, Result.andThen_ok, List.map_toArray, List.map_cons, List.map_nil, hs, hx, hrun]
  exact hK _ _ (h w' h2 h3)
end
/-- One new cell reads as a slice of one. -/
theorem Reads.one_new (w : World) (v : Value) (e : TypeId) : Reads (w.alloc (.cells #[v] e)) (w.heap.size + 1) 1 (some ⟨w.heap.size, 0, none⟩) 1 [v] :=
  ⟨rfl, fun _ => ⟨_, rfl, Nat.lt_succ_self _, fun j u hu => by
    rw [Addr.add_lit]
    have := (Blk.new w e #[v]).cell j
    rw [Nat.zero_add]
    exact this.trans (by simpa using hu)⟩⟩
/-- What a block holds from its begin on reads as a slice. -/
theorem Reads.of_blk {w : World} {g : Nat} {e : TypeId} {cur : Array Value} (h : Blk w g e cur) {B n size : Nat} (hB : g < B) (hn : n * size ≤ cur.size) : Reads w B size (some ⟨g, 0, none⟩) n (cur.toList.take (n * size)) :=
  ⟨by simp; omega, fun _ => ⟨_, rfl, hB, fun j u hu => by
    rw [Addr.add_lit, Nat.zero_add, h.cell]
    rw [List.getElem?_take] at hu
    split at hu
    · simpa using hu
    · cases hu⟩⟩
end Go.Proofs.YtiajmngjhbckjaaDoor
