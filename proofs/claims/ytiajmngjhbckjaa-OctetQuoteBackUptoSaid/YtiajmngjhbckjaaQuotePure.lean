/- Texts in quotes, and back: the document's way and the program's; of no program. By this session. -/
import Derived.Lib.MapLaws
import Derived.Lib.DecodeNEq
namespace Go.Proofs.Ytiajmngjhbckjaa
open Go.Lib
/-- A half byte's digit, as a byte. -/
def hx8 (v : Nat) : UInt8 := if v < 10 then (48 + v).toUInt8 else (87 + v).toUInt8
def nb8 (c : UInt8) : Int := if 48 ≤ c.toNat ∧ c.toNat ≤ 57 then (c.toNat : Int) - 48 else if 97 ≤ c.toNat ∧ c.toNat ≤ 102 then (c.toNat : Int) - 87 else -1
/-- What the rune in front gives. -/
def outQ (l : List UInt8) : List UInt8 :=
  if l.getD 0 0 = 34 ∨ l.getD 0 0 = 92 then [92, l.getD 0 0]
  else if l.getD 0 0 = 10 then [92, 110]
  else if (l.getD 0 0).toNat < 32 ∨ (l.getD 0 0).toNat = 127 ∨ decodeL l = (65533, 1) then [92, 120, hx8 ((l.getD 0 0).toNat / 16), hx8 ((l.getD 0 0).toNat % 16)]
  else l.take (decodeL l).2
def quoteF : Nat → List UInt8 → List UInt8
  | 0, _ => []
  | f + 1, l => if l = [] then [] else outQ l ++ quoteF f (l.drop (decodeL l).2)
def quoteB (l : List UInt8) : List UInt8 := quoteF l.length l
def quoteL (l : List UInt8) : List UInt8 := 34 :: (quoteB l ++ [34])
theorem quoteF_nil : ∀ f, quoteF f [] = []
  | 0 => rfl
  | _ + 1 => by simp [quoteF]
theorem quoteF_fuel : ∀ (n m : Nat) (l : List UInt8), l.length ≤ n → l.length ≤ m → quoteF n l = quoteF m l
  | 0, m, l, hn, _ => by
    obtain rfl : l = [] := List.eq_nil_of_length_eq_zero (by omega)
    rw [quoteF_nil, quoteF_nil]
  | n + 1, 0, l, _, hm => by
    obtain rfl : l = [] := List.eq_nil_of_length_eq_zero (by omega)
    rw [quoteF_nil, quoteF_nil]
  | n + 1, m + 1, l, hn, hm => by
    by_cases hne : l = []
    · subst hne; rw [quoteF_nil, quoteF_nil]
    · have hw := decodeL_width l
      have hl : 0 < l.length := List.length_pos_iff.2 hne
      simp only [quoteF, if_neg hne]
      rw [quoteF_fuel n m _ (by rw [List.length_drop]; omega) (by rw [List.length_drop]; omega)]
theorem quoteB_nil : quoteB [] = [] := rfl
theorem quoteB_step (l : List UInt8) (hne : l ≠ []) : quoteB l = outQ l ++ quoteB (l.drop (decodeL l).2) := by
  have hw := decodeL_width l
  have hl : 0 < l.length := List.length_pos_iff.2 hne
  unfold quoteB
  obtain ⟨n, hn⟩ : ∃ n, l.length = n + 1 := ⟨l.length - 1, by omega⟩
  rw [hn]
  simp only [quoteF, if_neg hne]
  rw [quoteF_fuel n _ _ (by rw [List.length_drop]; omega) (Nat.le_refl _)]
theorem ascii_dec (l : List UInt8) (h : (l.getD 0 0).toNat < 128) : decodeL l = ((l.getD 0 0).toNat, 1) := by rw [decodeL_N, decodeN_ascii _ _ _ _ _ h]
theorem decodeL_le' (l : List UInt8) (hne : l ≠ []) : (decodeL l).2 ≤ l.length := decodeL_le l hne
/-- The bytes of a rune beyond ASCII. -/
theorem chunk_high (l : List UInt8) (hne : l ≠ []) (h : 128 ≤ (l.getD 0 0).toNat) (hv : decodeL l ≠ (65533, 1)) : ∀ x ∈ l.take (decodeL l).2, 128 ≤ x.toNat := by
  have hl : 0 < l.length := List.length_pos_iff.2 hne
  have k0 := (l.getD 0 0).toNat_lt; have k1 := (l.getD 1 0).toNat_lt; have k2 := (l.getD 2 0).toNat_lt; have k3 := (l.getD 3 0).toNat_lt
  rw [decodeL_N] at hv ⊢
  rcases decodeN_shape l.length (l.getD 0 0).toNat (l.getD 1 0).toNat (l.getD 2 0).toNat (l.getD 3 0).toNat with ⟨c, e⟩ | ⟨c1, c2, c3, cv, e⟩ | ⟨c1, c2, c3, c4, cv, cs, e⟩ | ⟨c1, c2, c3, c4, c5, cv, cw, e⟩ | e
  · omega
  · rw [e]; dsimp only; rw [takeB l c2]
    intro x hx; simp only [List.mem_cons, List.not_mem_nil, or_false] at hx; rcases hx with rfl | rfl <;> omega
  · rw [e]; dsimp only; rw [takeC l c2]
    intro x hx; simp only [List.mem_cons, List.not_mem_nil, or_false] at hx; rcases hx with rfl | rfl | rfl <;> omega
  · rw [e]; dsimp only; rw [takeD l c2]
    intro x hx; simp only [List.mem_cons, List.not_mem_nil, or_false] at hx; rcases hx with rfl | rfl | rfl | rfl <;> omega
  · exact absurd e hv
/-- What the program takes away. -/
def unP : List UInt8 → Option (List UInt8)
  | [] => some []
  | [c] => if c = 92 then none else some [c]
  | c :: d :: t => if c = 92 then (if d = 34 ∨ d = 92 then (unP t).map (d :: ·) else if d = 110 then (unP t).map (10 :: ·)
      else if d = 120 then (match t with
        | x :: y :: t' => if nb8 x < 0 ∨ nb8 y < 0 then none else (unP t').map ((16 * nb8 x + nb8 y).toNat.toUInt8 :: ·)
        | _ => none)
      else none)
    else (unP (d :: t)).map (c :: ·)
/-- What the document takes away. -/
def unR : List UInt8 → Option (List UInt8)
  | [] => some []
  | [c] => if c = 92 then none else some [c]
  | c :: d :: t => if c = 92 then (if d = 110 then (unR t).map (10 :: ·)
      else if d = 120 then (match t with
        | x :: y :: t' => if nb8 x < 0 ∨ nb8 y < 0 then (unR (x :: y :: t')).map (120 :: ·) else (unR t').map ((16 * nb8 x + nb8 y).toNat.toUInt8 :: ·)
        | t'' => (unR t'').map (120 :: ·))
      else (unR t).map (d :: ·))
    else (unR (d :: t)).map (c :: ·)
theorem unP_plain (c : UInt8) (t : List UInt8) (h : c ≠ 92) : unP (c :: t) = (unP t).map (c :: ·) := by
  cases t with
  | nil => simp [unP, h]
  | cons d t => rw [unP.eq_def]; dsimp only; rw [if_neg h]
theorem unR_plain (c : UInt8) (t : List UInt8) (h : c ≠ 92) : unR (c :: t) = (unR t).map (c :: ·) := by
  cases t with
  | nil => simp [unR, h]
  | cons d t => rw [unR.eq_def]; dsimp only; rw [if_neg h]
theorem map_nil_append (o : Option (List UInt8)) : o.map (([] : List UInt8) ++ ·) = o := by cases o <;> rfl
theorem unP_chunk (ch t : List UInt8) (h : ∀ x ∈ ch, x ≠ 92) : unP (ch ++ t) = (unP t).map (ch ++ ·) := by
  induction ch with
  | nil => simp
  | cons c ch ih =>
    rw [List.cons_append, unP_plain c _ (h c (by simp)), ih (fun x hx => h x (by simp [hx])), Option.map_map]
    rfl
theorem unR_chunk (ch t : List UInt8) (h : ∀ x ∈ ch, x ≠ 92) : unR (ch ++ t) = (unR t).map (ch ++ ·) := by
  induction ch with
  | nil => simp
  | cons c ch ih =>
    rw [List.cons_append, unR_plain c _ (h c (by simp)), ih (fun x hx => h x (by simp [hx])), Option.map_map]
    rfl
theorem nb8_hx8 (v : Nat) (h : v < 16) : nb8 (hx8 v) = v := by
  have : ∀ i : Fin 16, nb8 (hx8 i.val) = (i.val : Int) := by decide
  exact this ⟨v, h⟩
theorem byte_back (c : UInt8) : (16 * ((c.toNat / 16 : Nat) : Int) + ((c.toNat % 16 : Nat) : Int)).toNat.toUInt8 = c := by
  have : (16 * ((c.toNat / 16 : Nat) : Int) + ((c.toNat % 16 : Nat) : Int)).toNat = c.toNat := by omega
  rw [this]; simp
/-- The rune in front, as a byte and the rest, where it is a single byte. -/
theorem one_head (l : List UInt8) (hne : l ≠ []) : l = l.getD 0 0 :: l.drop 1 := by
  cases l with
  | nil => exact absurd rfl hne
  | cons c t => simp
theorem un_quote (n : Nat) : ∀ l : List UInt8, l.length ≤ n → unP (quoteB l) = some l ∧ unR (quoteB l) = some l ∧ l.length ≤ (quoteB l).length ∧ (quoteB l).length ≤ 4 * l.length := by
  induction n with
  | zero =>
    intro l hl
    obtain rfl : l = [] := List.eq_nil_of_length_eq_zero (by omega)
    exact ⟨rfl, rfl, Nat.le_refl _, Nat.le_refl _⟩
  | succ n ih =>
    intro l hl
    by_cases hne : l = []
    · subst hne; exact ⟨rfl, rfl, Nat.le_refl _, Nat.le_refl _⟩
    have hl0 : 0 < l.length := List.length_pos_iff.2 hne
    have hw := decodeL_width l
    have hle := decodeL_le' l hne
    have hdl : (l.drop (decodeL l).2).length = l.length - (decodeL l).2 := by rw [List.length_drop]
    obtain ⟨i1, i2, i3, i4⟩ := ih (l.drop (decodeL l).2) (by omega)
    rw [quoteB_step l hne]
    have hcons := one_head l hne
    have k0 := (l.getD 0 0).toNat_lt
    unfold outQ
    by_cases h1 : l.getD 0 0 = 34 ∨ l.getD 0 0 = 92
    · rw [if_pos h1]
      have hd : decodeL l = ((l.getD 0 0).toNat, 1) := ascii_dec l (by rcases h1 with h | h <;> rw [h] <;> decide)
      rw [hd] at i1 i2 i3 i4 hdl ⊢
      dsimp only at *
      have h2 : l.getD 0 0 ≠ 110 ∧ l.getD 0 0 ≠ 120 := by rcases h1 with h | h <;> rw [h] <;> decide
      refine ⟨?_, ?_, by simp only [List.length_append, List.length_cons, List.length_nil]; omega, by simp only [List.length_append, List.length_cons, List.length_nil]; omega⟩
      · show unP (92 :: l.getD 0 0 :: quoteB (l.drop 1)) = _
        rw [unP.eq_def]; dsimp only
        rw [if_pos rfl, if_pos h1, i1]
        exact congrArg some hcons.symm
      · show unR (92 :: l.getD 0 0 :: quoteB (l.drop 1)) = _
        rw [unR.eq_def]; dsimp only
        rw [if_pos rfl, if_neg h2.1, if_neg h2.2, i2]
        exact congrArg some hcons.symm
    rw [if_neg h1]
    by_cases h3 : l.getD 0 0 = 10
    · rw [if_pos h3]
      have hd : decodeL l = ((l.getD 0 0).toNat, 1) := ascii_dec l (by rw [h3]; decide)
      rw [hd] at i1 i2 i3 i4 hdl ⊢
      dsimp only at *
      rw [h3] at hcons
      refine ⟨?_, ?_, by simp only [List.length_append, List.length_cons, List.length_nil]; omega, by simp only [List.length_append, List.length_cons, List.length_nil]; omega⟩
      · show unP (92 :: 110 :: quoteB (l.drop 1)) = _
        rw [unP.eq_def]; dsimp only
        rw [if_pos rfl, if_neg (by decide), if_pos rfl, i1]
        exact congrArg some hcons.symm
      · show unR (92 :: 110 :: quoteB (l.drop 1)) = _
        rw [unR.eq_def]; dsimp only
        rw [if_pos rfl, if_pos rfl, i2]
        exact congrArg some hcons.symm
    rw [if_neg h3]
    by_cases h4 : (l.getD 0 0).toNat < 32 ∨ (l.getD 0 0).toNat = 127 ∨ decodeL l = (65533, 1)
    · rw [if_pos h4]
      have hd : (decodeL l).2 = 1 := by
        rcases h4 with h | h | h
        · rw [ascii_dec l (by omega)]
        · rw [ascii_dec l (by omega)]
        · rw [h]
      rw [hd] at i1 i2 i3 i4 hdl ⊢
      have n1 := nb8_hx8 ((l.getD 0 0).toNat / 16) (by omega)
      have n2 := nb8_hx8 ((l.getD 0 0).toNat % 16) (by omega)
      have bb := byte_back (l.getD 0 0)
      refine ⟨?_, ?_, by simp only [List.length_append, List.length_cons, List.length_nil]; omega, by simp only [List.length_append, List.length_cons, List.length_nil]; omega⟩
      · show unP (92 :: 120 :: hx8 ((l.getD 0 0).toNat / 16) :: hx8 ((l.getD 0 0).toNat % 16) :: quoteB (l.drop 1)) = _
        rw [unP.eq_def]; dsimp only
        rw [if_pos rfl, if_neg (by decide), if_neg (by decide), if_pos rfl, n1, n2, if_neg (by omega), i1, bb]
        exact congrArg some hcons.symm
      · show unR (92 :: 120 :: hx8 ((l.getD 0 0).toNat / 16) :: hx8 ((l.getD 0 0).toNat % 16) :: quoteB (l.drop 1)) = _
        rw [unR.eq_def]; dsimp only
        rw [if_pos rfl, if_neg (by decide), if_pos rfl, n1, n2, if_neg (by omega), i2, bb]
        exact congrArg some hcons.symm
    · rw [if_neg h4]
      have hch : ∀ x ∈ l.take (decodeL l).2, x ≠ 92 := by
        by_cases hA : (l.getD 0 0).toNat < 128
        · rw [ascii_dec l hA]
          dsimp only
          rw [takeA l hl0]
          intro x hx e
          rw [List.mem_singleton.1 hx] at e
          exact h1 (.inr e)
        · intro x hx e
          have := chunk_high l hne (by omega) (fun h => h4 (.inr (.inr h))) x hx
          rw [e] at this
          exact absurd this (by decide)
      refine ⟨?_, ?_, by rw [List.length_append, List.length_take]; omega, by rw [List.length_append, List.length_take]; omega⟩
      · rw [unP_chunk _ _ hch, i1]; simp
      · rw [unR_chunk _ _ hch, i2]; simp
/-- What stands between the marks. -/
def innerQ (t : List UInt8) : Option (List UInt8) := if 2 ≤ t.length ∧ t.getD 0 0 = 34 ∧ t.getD (t.length - 1) 0 = 34 then some ((t.drop 1).take (t.length - 2)) else none
theorem innerQ_quote (l : List UInt8) : innerQ (quoteL l) = some (quoteB l) := by
  unfold innerQ quoteL
  have e : (34 :: (quoteB l ++ [34])).length = (quoteB l).length + 2 := by simp
  rw [e]
  have e2 : (34 :: (quoteB l ++ [34])).getD ((quoteB l).length + 2 - 1) 0 = 34 := by
    rw [show (quoteB l).length + 2 - 1 = (quoteB l).length + 1 from by omega]
    simp
  rw [if_pos ⟨by omega, by simp, e2⟩]
  simp
/-- There is a text of which it is the quotation. -/
def finQ (u : List UInt8 → Option (List UInt8)) (t : List UInt8) : Option (List UInt8) := ((innerQ t).bind u).bind fun r => if quoteL r = t then some r else none
theorem finQ_quote (u : List UInt8 → Option (List UInt8)) (l : List UInt8) (h : u (quoteB l) = some l) : finQ u (quoteL l) = some l := by
  unfold finQ
  rw [innerQ_quote, Option.bind_some, h, Option.bind_some, if_pos rfl]
theorem finQ_some (u : List UInt8 → Option (List UInt8)) (t r : List UInt8) (h : finQ u t = some r) : quoteL r = t := by
  unfold finQ at h
  obtain ⟨x, _, hx⟩ := Option.bind_eq_some_iff.1 h
  split at hx
  · obtain rfl := Option.some.inj hx; assumption
  · cases hx
theorem finQ_eq (t : List UInt8) : finQ unP t = finQ unR t := by
  cases h : finQ unP t with
  | some r =>
    have e := finQ_some _ _ _ h
    rw [← e, finQ_quote unR r (un_quote _ r (Nat.le_refl _)).2.1]
  | none =>
    cases h' : finQ unR t with
    | none => rfl
    | some r =>
      have e := finQ_some _ _ _ h'
      rw [← e, finQ_quote unP r (un_quote _ r (Nat.le_refl _)).1] at h
      cases h
theorem quoteL_length (l : List UInt8) : l.length + 2 ≤ (quoteL l).length ∧ (quoteL l).length ≤ 4 * l.length + 2 := by
  have := un_quote _ l (Nat.le_refl _)
  simp only [quoteL, List.length_cons, List.length_append, List.length_nil]
  omega
end Go.Proofs.Ytiajmngjhbckjaa
