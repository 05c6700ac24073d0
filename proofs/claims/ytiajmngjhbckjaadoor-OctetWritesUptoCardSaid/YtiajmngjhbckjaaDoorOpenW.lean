/- The calls on a writer, opened: five cells each. -/
import Derived.Test.YtiajmngjhbckjaaDoorWritten
import Derived.Test.YtiajmngjhbckjaaDoorBulk2
namespace Go.Proofs.YtiajmngjhbckjaaDoor
open Go.ChangeShapes Go.WideShapes Go.ChangeAt Go.RowKit
/-- A call. -/
structure WIt where
  j : Int
  z : Nat
  n : Int
  A : Option Addr
  m : Nat
  c : Nat
  l : List Nat
  s : ByteArray
/-- What holds of a call's fields in the world in which it came. -/
structure WOk (W : World) (x : WIt) : Prop where
  z : x.z < 18446744073709551616
  n : -9223372036854775808 ≤ x.n ∧ x.n ≤ 9223372036854775807
  rd : Reads W W.heap.size 1 x.A x.m (x.l.map byt)
  lb : ∀ b ∈ x.l, b < 256
  s : x.s.size ≤ maxLen
/-- Its bytes. -/
def wBy (x : WIt) : List Nat := wBytes x.j x.z x.n x.l x.s
section
variable {H : Type} {enc : TypeId × Value → H} {W : World}
theorem field_at {spare : Nat → Bool} {held : Bool} {base fuel : Nat} {t : TypeId} {fs : Array Field} {cs : List Value} {x : DataW H × List MemPlace} (ht : Tryd.prog.underlying t = some (.struct fs))
    (h : DataW.trod enc Tryd.prog W base spare held fuel t cs = some x) (i : Nat) (f : Field) (hf : fs[i]? = some f) :
    ∃ n y, DataW.trod enc Tryd.prog W base spare held n f.type ((cs.drop f.offset).take (Tryd.prog.cellsOf f.type)) = some y ∧ Rows.uptoBulk y.1 + 1 ≤ Rows.uptoBulk x.1 := by
  obtain ⟨xs, n, _, rfl, _, hxl, hx⟩ := DataW.trod_struct ht h
  obtain ⟨y, hy⟩ : ∃ y, xs[i]? = some y := ⟨_, List.getElem?_eq_getElem (by rw [hxl]; exact (Array.getElem?_eq_some_iff.1 hf).1)⟩
  refine ⟨n, y, (hx i f hf).trans hy, ?_⟩
  have := bulks.part_le (List.mem_map_of_mem (f := fun q : DataW H × List MemPlace => q.1) (List.mem_of_getElem? hy))
  simp only [Rows.uptoBulk]
  omega
theorem write_of_trod {spare : Nat → Bool} {held : Bool} {base fuel : Nat} {cs : List Value} {x : DataW H × List MemPlace} (hl : cs.length = 5) (h : DataW.trod enc Tryd.prog W base spare held fuel 32 cs = some x) :
    ∃ y : WIt, cs = [.int .i64 y.j, .int .u64 y.z, .int .i64 y.n, .slice y.A y.m y.c, .string y.s] ∧ WOk W y ∧ y.l.length + 1 ≤ Rows.uptoBulk x.1 := by
  obtain ⟨c0, c1, c2, c3, c4, rfl⟩ : ∃ c0 c1 c2 c3 c4, cs = [c0, c1, c2, c3, c4] := by
    match cs, hl with
    | [a, b, c, d, e], _ => exact ⟨_, _, _, _, _, rfl⟩
  have k3 : Tryd.prog.cellsOf 3 = 1 := by kernel_rfl
  have k30 : Tryd.prog.cellsOf 30 = 1 := by kernel_rfl
  have k26 : Tryd.prog.cellsOf 26 = 1 := by kernel_rfl
  have k9 : Tryd.prog.cellsOf 9 = 1 := by kernel_rfl
  have k5 : Tryd.prog.cellsOf 5 = 1 := by kernel_rfl
  obtain ⟨n0, x0, f0, _⟩ := field_at Tryd.underlying32 h 0 _ rfl
  replace f0 : DataW.trod enc Tryd.prog W base spare held n0 3 [c0] = some x0 := by simpa [k3] using f0
  obtain ⟨j, hc, _, _⟩ := DataW.trod_int Tryd.underlying3 f0
  obtain rfl : c0 = .int .i64 j := by simpa using hc
  obtain ⟨n1, x1, f1, _⟩ := field_at Tryd.underlying32 h 1 _ rfl
  replace f1 : DataW.trod enc Tryd.prog W base spare held n1 30 [c1] = some x1 := by simpa [k30] using f1
  obtain ⟨z, hc, _, wz⟩ := DataW.trod_int Tryd.underlying30 f1
  obtain rfl : c1 = .int .u64 z := by simpa using hc
  obtain ⟨n2, x2, f2, _⟩ := field_at Tryd.underlying32 h 2 _ rfl
  replace f2 : DataW.trod enc Tryd.prog W base spare held n2 3 [c2] = some x2 := by simpa [k3] using f2
  obtain ⟨n, hc, _, wn⟩ := DataW.trod_int Tryd.underlying3 f2
  obtain rfl : c2 = .int .i64 n := by simpa using hc
  obtain ⟨n3, x3, f3, hb3⟩ := field_at Tryd.underlying32 h 3 _ rfl
  replace f3 : DataW.trod enc Tryd.prog W base spare held n3 26 [c3] = some x3 := by simpa [k26] using f3
  obtain ⟨A, m, c, l, hc, hr, hlb, _, _, hlm, _, hD⟩ := bytes_of_trod Tryd.underlying26 Tryd.underlying5 k5 f3
  obtain rfl : c3 = .slice A m c := by simpa using hc
  obtain ⟨n4, x4, f4, _⟩ := field_at Tryd.underlying32 h 4 _ rfl
  replace f4 : DataW.trod enc Tryd.prog W base spare held n4 9 [c4] = some x4 := by simpa [k9] using f4
  obtain ⟨s, hc, _, hs⟩ := DataW.trod_string Tryd.underlying9 f4
  obtain rfl : c4 = .string s := by simpa using hc
  have hz := bounds_u64 wz
  have hbd : l.length ≤ Rows.uptoBulk x3.1 := bulk_byteDatum (l := l) (d := x3.1) hD
  refine ⟨⟨j, z.toNat, n, A, m, c, l, s⟩, by simp [Int.toNat_of_nonneg hz.1], ⟨by show z.toNat < _; omega, bounds_i64 wn, hr, hlb, hs⟩, by show l.length + 1 ≤ _; omega⟩
/-- The list of calls in memory. -/
def WIts (W : World) (A : Option Addr) (xs : List WIt) : Prop :=
  ∀ i x, xs[i]? = some x → WOk W x ∧ ∃ ad, A = some ad ∧ ∀ w, Below W.heap.size W w → w.cell? (ad.add (i * 5)) = some (.int .i64 x.j) ∧ w.cell? ⟨(ad.add (i * 5)).block, (ad.add (i * 5)).off + 1, none⟩ = some (.int .u64 x.z) ∧
    w.cell? ⟨(ad.add (i * 5)).block, (ad.add (i * 5)).off + 2, none⟩ = some (.int .i64 x.n) ∧ w.cell? ⟨(ad.add (i * 5)).block, (ad.add (i * 5)).off + 3, none⟩ = some (.slice x.A x.m x.c) ∧ w.cell? ⟨(ad.add (i * 5)).block, (ad.add (i * 5)).off + 4, none⟩ = some (.string x.s)
theorem bulk_sum : ∀ (es : List (DataW H)) (ns : List Nat), es.length = ns.length → (∀ (i : Nat) e n, es[i]? = some e → ns[i]? = some n → n + 1 ≤ Rows.uptoBulk e) → ns.sum + ns.length ≤ Rows.uptoBulkAll es
  | [], [], _, _ => by simp
  | [], _ :: _, h, _ => by simp at h
  | _ :: _, [], h, _ => by simp at h
  | e :: es, n :: ns, h, hh => by
    have h1 := hh 0 e n rfl rfl
    have h2 := bulk_sum es ns (by simpa using h) fun i e n he hn => hh (i + 1) e n (by simpa using he) (by simpa using hn)
    simp only [Rows.uptoBulkAll, List.sum_cons, List.length_cons]
    omega
set_option maxRecDepth 100000 in
theorem open_writes {r : Reach} {b0 : Nat} {spare : Nat → Bool} {held : Bool} {base : Nat} {v : Value} {d : DataW H} {p : List MemPlace} (hv : Value.okWide Tryd.prog W r b0 23 v) (h : DataW.Trod enc Tryd.prog W base spare held 23 v d p) :
    ∃ (A : Option Addr) (n c : Nat) (xs : List WIt), v = .slice A n c ∧ xs.length = n ∧ WIts W A xs ∧ n ≤ c ∧ c ≤ maxLen ∧ (xs.map fun x => x.l.length).sum + n ≤ Rows.uptoBulk d := by
  obtain ⟨a0, len, cap, rfl⟩ := okWide_slice Tryd.underlying23 hv
  obtain ⟨fuel, hf⟩ := h
  have k32 : Tryd.prog.cellsOf 32 = 5 := by kernel_rfl
  rcases Deep.open_slice Tryd.underlying23 hf with ⟨hcs, hx⟩ | ⟨a, len', cap', m, n, D, Pl, hcs, _, hl, hm, hmm, hx, hel⟩
  · simp [Value.cells] at hcs
    obtain ⟨rfl, rfl, rfl⟩ := hcs
    exact ⟨none, 0, 0, [], rfl, rfl, fun i x hx => (by cases hx), Nat.le_refl _, Nat.zero_le _, Nat.zero_le _⟩
  · simp [Value.cells] at hcs
    obtain ⟨rfl, rfl, rfl⟩ := hcs
    have hlm : len ≤ m := by rw [hmm]; split <;> omega
    have key : ∀ i, i < len → ∃ y : WIt, WOk W y ∧ y.l.length + 1 ≤ Rows.uptoBulk (D i) ∧ ∀ k u, [Value.int .i64 y.j, .int .u64 y.z, .int .i64 y.n, .slice y.A y.m y.c, .string y.s][k]? = some u → W.cell? (a.add (i * 5 + k)) = some u := by
      intro i hi
      obtain ⟨cs', hc, ht'⟩ := hel i (by omega)
      rw [k32] at hc
      obtain ⟨_, hcl, hat⟩ := World.cells?_some hc
      obtain ⟨y, rfl, hok, hb⟩ := write_of_trod hcl ht'
      refine ⟨y, hok, hb, fun k u hu => ?_⟩
      have hk := (List.getElem?_eq_some_iff.1 hu).1
      have := hat k hk
      rw [Go.Deep.add_add] at this
      rw [this]; exact hu
    have hg : ∀ i (hi : i < len), _ := fun i hi => Classical.choose_spec (key i hi)
    refine ⟨some a, len, cap, (List.finRange len).map (fun i => Classical.choose (key i.1 i.2)), rfl, by simp, fun i x hxi => ?_, hl, hm, ?_⟩
    · rw [List.getElem?_map] at hxi
      obtain ⟨j, hj, rfl⟩ := Option.map_eq_some_iff.1 hxi
      obtain ⟨hil, hji⟩ := List.getElem?_eq_some_iff.1 hj
      have hji' : j.1 = i := by rw [← hji]; simp
      have hs := hg j.1 j.2
      subst hji'
      refine ⟨hs.1, a, rfl, fun w hb => ?_⟩
      have hc : ∀ k u, [Value.int .i64 (Classical.choose (key j.1 j.2)).j, .int .u64 (Classical.choose (key j.1 j.2)).z, .int .i64 (Classical.choose (key j.1 j.2)).n, .slice (Classical.choose (key j.1 j.2)).A (Classical.choose (key j.1 j.2)).m (Classical.choose (key j.1 j.2)).c, .string (Classical.choose (key j.1 j.2)).s][k]? = some u → w.cell? (a.add (j.1 * 5 + k)) = some u := fun k u hu => by
        have h1 := hs.2.2 k u hu
        have hlt := lt_of_cell h1
        exact (hb.cell (p := a.add (j.1 * 5 + k)) hlt).trans h1
      have e0 := hc 0 _ rfl
      have e1 := hc 1 _ rfl
      have e2 := hc 2 _ rfl
      have e3 := hc 3 _ rfl
      have e4 := hc 4 _ rfl
      rw [← Go.Deep.add_add] at e1 e2 e3 e4
      exact ⟨e0, e1, e2, e3, e4⟩
    · obtain ⟨hx1, _⟩ := Prod.mk.inj hx
      subst hx1
      have hsum := bulk_sum ((List.range len).map D) ((List.finRange len).map fun i => (Classical.choose (key i.1 i.2)).l.length) (by simp) fun i e n he hn => by
        rw [List.getElem?_map] at he hn
        obtain ⟨i1, hi1, rfl⟩ := Option.map_eq_some_iff.1 he
        obtain ⟨j, hj, rfl⟩ := Option.map_eq_some_iff.1 hn
        obtain ⟨hil, hji⟩ := List.getElem?_eq_some_iff.1 hj
        have hji' : j.1 = i := by rw [← hji]; simp
        have hii : i1 = i := by
          obtain ⟨_, h1⟩ := List.getElem?_eq_some_iff.1 hi1
          rw [← h1]; simp
        subst hii
        rw [← hji']
        exact (hg j.1 j.2).2.1
      rw [List.map_map]
      simp only [List.length_map, List.length_finRange] at hsum
      have h3 := bulks.slice_elems (List.map D (List.range len)) (List.map (fun j => D (len + j)) (List.range (m - len)))
      show (List.map (fun i : Fin len => (Classical.choose (key i.1 i.2)).l.length) (List.finRange len)).sum + len ≤ _
      omega
end
end Go.Proofs.YtiajmngjhbckjaaDoor
