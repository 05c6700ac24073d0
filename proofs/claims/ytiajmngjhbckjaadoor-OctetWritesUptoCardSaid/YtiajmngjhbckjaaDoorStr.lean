/- Bytes made a string; of no program. By this session. -/
import Derived.Test.YtiajmngjhbckjaaDoorWords
import Derived.Laws.IdiomStrings
import Derived.Lib.BufferRead
namespace Go.Proofs.YtiajmngjhbckjaaDoor
open Go.RowKit
/-- The string of a list of bytes. -/
def strOf (l : List Nat) : ByteArray := ⟨(l.map Nat.toUInt8).toArray⟩
theorem toUInt8_toNat {x : Nat} (h : x < 256) : ((x.toUInt8).toNat : Int) = x := by simp [Nat.toUInt8, Nat.mod_eq_of_lt h]
theorem conv_back {P : Program} {w : World} {src dst e : TypeId} (hs : P.underlying src = some (.slice e)) (he : P.underlying e = some (.int .u8)) (hd : P.underlying dst = some .string)
    {B : Nat} {A : Option Addr} {n c : Nat} {l : List Nat} (h : Reads w B 1 A n (l.map byt)) (hb : ∀ x ∈ l, x < 256) :
    (convert src dst (.slice A n c)).run P w = .ok (.string (strOf l)) w := by
  have hln : l.length = n := by have := h.1; simpa using this
  rcases A with _ | ad
  · have hn : n = 0 := by
      rcases Nat.eq_zero_or_pos n with h0 | h0
      · exact h0
      · obtain ⟨ad, h1, _⟩ := h.2 h0; cases h1
    subst hn
    obtain rfl := List.eq_nil_of_length_eq_zero hln
    exact Lib.run_convert_nil_bytes w src dst e c hs he hd
  · have := run_convert_bytes_back (P := P) w src dst e ad c (l.map Nat.toUInt8) hs he hd (fun j hj => by
      have hj' : j < l.length := by simpa using hj
      obtain ⟨ad', e1, _, hc⟩ := h.2 (by omega)
      obtain rfl := Option.some.inj e1
      rw [hc j (byt l[j]) (by simp [hj'])]
      simp only [byt, List.getElem_map]
      rw [toUInt8_toNat (hb _ (List.getElem_mem hj'))])
    rw [List.length_map, hln] at this
    exact this
theorem strOf_inj {l l' : List Nat} (h : ∀ x ∈ l, x < 256) (h' : ∀ x ∈ l', x < 256) (e : strOf l = strOf l') : l = l' := by
  have e1 : l.map Nat.toUInt8 = l'.map Nat.toUInt8 := by
    have := congrArg (fun s : ByteArray => s.data.toList) e
    simpa [strOf] using this
  have e2 := congrArg (List.map UInt8.toNat) e1
  rw [List.map_map, List.map_map] at e2
  have k : ∀ l : List Nat, (∀ x ∈ l, x < 256) → l.map (UInt8.toNat ∘ Nat.toUInt8) = l := fun l hl => by
    conv => rhs; rw [← List.map_id l]
    refine List.map_congr_left fun x hx => ?_
    have := hl x hx
    simp [Nat.toUInt8, Nat.mod_eq_of_lt this]
  rwa [k l h, k l' h'] at e2
end Go.Proofs.YtiajmngjhbckjaaDoor
