/- An order and the document's, of one row; two calls side by side. -/
import Derived.Test.YtjddjjfcongnlaaDocF
namespace Go.Proofs.Ytjddjjfcongnlaa
open Go.RowKit Go.Maps
section
variable {w w' : World} {B o n : Nat} {F : List Nat} {L : List (Int × Nat)}
theorem IsOrderInt.kok (h : IsOrderInt w B o n F L) : KOk L := by
  obtain ⟨mb, N, D, st, ps, hN, h, rfl, rfl⟩ := h
  unfold KOk rowOf
  rw [List.map_map]
  refine List.pairwise_map.2 ?_
  refine List.Pairwise.imp_of_mem ?_ h.chain.nodup
  intro a b ha hb hne e
  exact hne (h.keys a ha b hb e)
theorem IsOrderInt.pinle (h : IsOrderInt w B o n F L) : ∀ x ∈ L, x.2 ≤ 2147483647 := by
  obtain ⟨mb, N, D, st, ps, hN, h, rfl, rfl⟩ := h
  intro x hx
  obtain ⟨p, hp, rfl⟩ := List.mem_map.1 hx
  exact h.pin p hp
theorem IsOrderInt.okk (h : IsOrderInt w B o n F L) : ∀ x ∈ L, okInt x.1 := by
  obtain ⟨mb, N, D, st, ps, hN, h, rfl, rfl⟩ := h
  intro x hx
  obtain ⟨p, hp, rfl⟩ := List.mem_map.1 hx
  exact h.okk p hp
theorem IsOrderInt.len (h : IsOrderInt w B o n F L) : L.length ≤ n := by
  obtain ⟨mb, N, D, st, ps, hN, h, rfl, rfl⟩ := h
  have := h.map.size_le
  rw [h.size] at this
  show (ps.map _).length ≤ n
  rw [List.length_map]; omega
/-- The blocks of an order are a map, or cells of the two types. -/
theorem IsOrderInt.kind (h : IsOrderInt w B o n F L) : ∀ x ∈ F, (∃ es c, w.heap[x]? = some (.map es c)) ∨ ∃ t cs, (t = 70 ∨ t = 73) ∧ Blk w x t cs := by
  obtain ⟨mb, N, D, st, ps, hN, h, rfl, rfl⟩ := h
  intro x hx
  simp only [List.mem_cons] at hx
  rcases hx with rfl | rfl | hx
  · exact .inr ⟨_, _, .inl rfl, h.rep.ord⟩
  · obtain ⟨es, c, hb, _⟩ := h.map
    exact .inl ⟨es, c, hb⟩
  · exact .inr ⟨_, _, .inr rfl, h.rep.pl x hx⟩
theorem kind_ne {x : Nat} {t : TypeId} {cs : Array Value} (h : (∃ es c, w.heap[x]? = some (.map es c)) ∨ ∃ t cs, (t = 70 ∨ t = 73) ∧ Blk w x t cs) (hb : Blk w x t cs) : t = 70 ∨ t = 73 := by
  rcases h with ⟨es, c, hm⟩ | ⟨t', cs', ht, hb'⟩
  · unfold Blk at hb
    rw [hm] at hb; cases hb
  · by_cases e : t = t'
    · exact e ▸ ht
    · exact absurd rfl (Blk.ne_ hb hb' e)
variable {d : Nat} {made : Bool} {v : Value} {L' : List (Int × Nat)}
theorem IsDoc.kind (h : IsDoc w B d made L' v) : ∀ x ∈ FD d v, ∃ t cs, (t = 42 ∨ t = 83) ∧ Blk w x t cs := by
  intro x hx
  unfold FD at hx
  rcases List.mem_cons.1 hx with rfl | hx
  · exact ⟨_, _, .inl rfl, h.blk⟩
  · have hob : v.ownBlock = some x := by simpa using hx
    rcases h.row.2 with ⟨e, _⟩ | ⟨g, cap, cur, e, _, hh, _⟩
    · rw [e] at hob; cases hob
    · obtain rfl : g = x := by rw [e] at hob; exact Option.some.inj hob
      exact ⟨_, _, .inr rfl, hh⟩
theorem od_dis (h : IsOrderInt w B o n F L) (h' : IsDoc w B d made L' v) : ∀ x ∈ F, x ∉ FD d v := by
  intro x hx hx'
  obtain ⟨t, cs, ht, hb⟩ := h'.kind x hx'
  rcases kind_ne (h.kind x hx) hb with rfl | rfl <;> rcases ht with ht | ht <;> cases ht
theorem IsDoc.keeps {F' : List Nat} (h : IsDoc w B d made L' v) (hk : Keeps F' w w') (hd : ∀ x ∈ FD d v, x ∉ F') : IsDoc w' B d made L' v := by
  refine ⟨hk.blk h.blk (hd d (by unfold FD; simp)), ⟨h.row.1, ?_⟩, h.base⟩
  rcases h.row.2 with h2 | ⟨g, cap, cur, e, hg, hh, r⟩
  · exact .inl h2
  · refine .inr ⟨g, cap, cur, e, hg, ?_, r⟩
    have hgf : g ∈ FD d v := mem_fd (by rw [e]; rfl)
    exact (hk.block g (lt_of_block hh) (hd g hgf)).trans hh
end
/-- Both hold one row. -/
def Both (w : World) (B o n d : Nat) (L : List (Int × Nat)) (F : List Nat) (v : Value) : Prop := IsOrderInt w B o n F L ∧ IsDoc w B d true L v
/-- A call on the order. -/
def OC (f B o n n' : Nat) (k : Int) (L L' : List (Int × Nat)) (b : Bool) : Prop :=
  ∀ w F, IsOrderInt w B o n F L → B ≤ w.heap.size → Calls Try.prog f #[.pointer (some ⟨o, 0, none⟩), .int .i64 k] w fun e w' => e = .returned (.bool b) ∧ (∃ F', IsOrderInt w' B o n' F' L' ∧ ∀ x ∈ F', x ∈ F ∨ w.heap.size ≤ x) ∧ Keeps F w w'
/-- The same call on the document's. -/
def DC (f B d : Nat) (k : Int) (L L' : List (Int × Nat)) (b : Bool) : Prop :=
  ∀ w v, IsDoc w B d true L v → B ≤ w.heap.size → Calls Try.prog f #[.pointer (some ⟨d, 0, none⟩), .int .i64 k] w fun e w' => e = .returned (.bool b) ∧ DocTo w w' B d true v L'
section
variable {w w1 : World} {B o n n' d : Nat} {F : List Nat} {v : Value} {L L' : List (Int × Nat)}
theorem Both.afterO (h : Both w B o n d L F v) (hk : Keeps F w w1) : IsDoc w1 B d true L v :=
  h.2.keeps hk (fun x hx hf => od_dis h.1 h.2 x hf hx)
theorem Both.afterD (h : Both w B o n d L F v) (hd : DocTo w w1 B d true v L') : IsOrderInt w1 B o n F L ∧ ∃ v', IsDoc w1 B d true L' v' := by
  obtain ⟨v', h1, _, h3⟩ := hd
  exact ⟨h.1.keeps h3 (od_dis h.1 h.2), v', h1⟩
end
end Go.Proofs.Ytjddjjfcongnlaa
