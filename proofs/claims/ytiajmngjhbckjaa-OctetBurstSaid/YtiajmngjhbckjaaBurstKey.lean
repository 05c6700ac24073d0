/- The plain law behind OctetBurst: bits turned within 32 side by side turn the sum. -/
import Derived.Test.YtiajmngjhbckjaaBurstIn
namespace Go.Proofs.Ytiajmngjhbckjaa
theorem xor_half (a b : Nat) : (a ^^^ b) / 2 = a / 2 ^^^ b / 2 := by
  apply Nat.eq_of_testBit_eq; intro i
  simp [Nat.testBit_div_two]
theorem xor_par (a b : Nat) : (a ^^^ b) % 2 = (a % 2 + b % 2) % 2 := by
  have := Nat.xor_mod_two_pow (a := a) (b := b) (n := 1)
  rw [Nat.pow_one] at this
  rw [this]
  rcases Nat.mod_two_eq_zero_or_one a with h | h <;> rcases Nat.mod_two_eq_zero_or_one b with h' | h' <;> rw [h, h'] <;> rfl
theorem cbit_xor (a b : Nat) : cbit (a ^^^ b) = cbit a ^^^ cbit b := by
  unfold cbit
  rw [xor_par, xor_half]
  rcases Nat.mod_two_eq_zero_or_one a with h | h <;> rcases Nat.mod_two_eq_zero_or_one b with h' | h'
  · simp [h, h']
  · simp [h, h', Nat.xor_assoc]
  · simp [h, h']; rw [Nat.xor_assoc, Nat.xor_assoc, Nat.xor_comm (b / 2)]
  · simp [h, h']
    have : a / 2 ^^^ 2197175160 ^^^ (b / 2 ^^^ 2197175160) = a / 2 ^^^ b / 2 ^^^ (2197175160 ^^^ 2197175160) := by
      simp only [Nat.xor_assoc]; congr 1; rw [← Nat.xor_assoc, Nat.xor_comm 2197175160, Nat.xor_assoc]
    rw [this, Nat.xor_self, Nat.xor_zero]
theorem cbits_xor (a b : Nat) : ∀ k, cbits k (a ^^^ b) = cbits k a ^^^ cbits k b
  | 0 => rfl
  | k + 1 => by rw [cbits, cbits_xor a b k, cbit_xor]; rfl
theorem cbits_add (a : Nat) (j : Nat) : ∀ k, cbits (k + j) a = cbits k (cbits j a)
  | 0 => by simp [cbits]
  | k + 1 => by rw [Nat.add_right_comm, cbits, cbits_add a j k]; rfl
theorem cbit_zero {a : Nat} (ha : a < 4294967296) (h : cbit a = 0) : a = 0 := by
  unfold cbit at h
  split at h
  · have := congrArg (· ^^^ 2197175160) h
    simp only [Nat.xor_assoc, Nat.xor_self, Nat.xor_zero, Nat.zero_xor] at this
    omega
  · omega
theorem cbits_zero {a : Nat} (ha : a < 4294967296) : ∀ k, cbits k a = 0 → a = 0
  | 0, h => h
  | k + 1, h => cbits_zero ha k (cbit_zero (cbits_lt ha k) h)
theorem cbits_shift (M : Nat) : ∀ k, cbits k (M * 2 ^ k) = M
  | 0 => by simp [cbits]
  | k + 1 => by
    have : cbits (k + 1) (M * 2 ^ (k + 1)) = cbits k (cbit (M * 2 ^ (k + 1))) := cbits_add _ 1 k
    rw [this]
    have e : M * 2 ^ (k + 1) = 2 * (M * 2 ^ k) := by rw [Nat.pow_succ]; simp only [Nat.mul_comm, Nat.mul_left_comm]
    have e2 : cbit (M * 2 ^ (k + 1)) = M * 2 ^ k := by rw [e, cbit, if_neg (by omega)]; omega
    rw [e2]; exact cbits_shift M k

/-- The bytes as one number, the first the lowest. -/
def le : List Nat → Nat
  | [] => 0
  | d :: ds => d ^^^ le ds * 2 ^ 8
theorem crc_le : ∀ (l : List Nat) (s : Nat), l.foldl cbyte s = cbits (8 * l.length) (s ^^^ le l)
  | [], s => by simp [cbits, le]
  | d :: ds, s => by
    rw [List.foldl_cons, crc_le ds, List.length_cons, Nat.mul_succ, cbits_add, le, ← Nat.xor_assoc, cbits_xor _ _ 8, cbits_shift]
    rfl
theorem le_byte {d y : Nat} (hd : d < 256) : (d ^^^ y * 2 ^ 8) % 2 ^ 8 = d ∧ (d ^^^ y * 2 ^ 8) / 2 ^ 8 = y := by
  constructor
  · rw [Nat.xor_mod_two_pow, Nat.mul_mod_left, Nat.xor_zero]; exact Nat.mod_eq_of_lt hd
  · rw [Nat.xor_div_two_pow, Nat.div_eq_of_lt hd, Nat.zero_xor, Nat.mul_div_cancel _ (by decide)]
theorem le_inj : ∀ (l l' : List Nat), l.length = l'.length → (∀ x ∈ l, x < 256) → (∀ x ∈ l', x < 256) → le l = le l' → l = l'
  | [], [], _, _, _, _ => rfl
  | d :: ds, d' :: ds', hl, hb, hb', h => by
    have a := le_byte (y := le ds) (hb d (by simp))
    have b := le_byte (y := le ds') (hb' d' (by simp))
    rw [show d ^^^ le ds * 2 ^ 8 = d' ^^^ le ds' * 2 ^ 8 from h] at a
    have h1 : d = d' := a.1.symm.trans b.1
    have h2 : le ds = le ds' := a.2.symm.trans b.2
    rw [h1, le_inj ds ds' (by simpa using hl) (fun x hx => hb x (by simp [hx])) (fun x hx => hb' x (by simp [hx])) h2]
  | [], _ :: _, hl, _, _, _ => by simp at hl
  | _ :: _, [], hl, _, _, _ => by simp at hl
theorem mul_xor (a b k : Nat) : (a ^^^ b) * 2 ^ k = a * 2 ^ k ^^^ b * 2 ^ k := by
  rw [← Nat.shiftLeft_eq, ← Nat.shiftLeft_eq, ← Nat.shiftLeft_eq, Nat.shiftLeft_xor_distrib]
theorem le_modify (r : Nat) : ∀ (l : List Nat) (k : Nat), k < l.length → le (l.modify k (· ^^^ 2 ^ r)) = le l ^^^ 2 ^ (8 * k + r)
  | [], k, h => by simp at h
  | d :: ds, 0, _ => by
    simp only [List.modify_zero_cons, le, Nat.mul_zero, Nat.zero_add]
    rw [Nat.xor_assoc, Nat.xor_assoc, Nat.xor_comm (2 ^ r)]
  | d :: ds, k + 1, h => by
    simp only [List.modify_succ_cons, le]
    rw [le_modify r ds k (by simpa using h), mul_xor, ← Nat.xor_assoc, ← Nat.pow_add, show 8 * k + r + 8 = 8 * (k + 1) + r from by omega]
theorem turns_le (mask p : Nat) (l : List Nat) : ∀ i, ∃ M, M < 2 ^ i ∧ le (turns mask p i l) = le l ^^^ M * 2 ^ p
  | 0 => ⟨0, by simp, by simp [turns]⟩
  | i + 1 => by
    obtain ⟨M, hM, h⟩ := turns_le mask p l i
    have hlt : M < 2 ^ (i + 1) := Nat.lt_of_lt_of_le hM (Nat.pow_le_pow_right (by omega) (by omega))
    rw [turns, turn]
    split
    · by_cases hk : (p + i) / 8 < (turns mask p i l).length
      · refine ⟨M ^^^ 2 ^ i, Nat.xor_lt_two_pow hlt (Nat.pow_lt_pow_right (by omega) (by omega)), ?_⟩
        rw [le_modify _ _ _ hk, h, mul_xor, Nat.xor_assoc, ← Nat.pow_add, show 8 * ((p + i) / 8) + (p + i) % 8 = i + p from by omega]
      · rw [List.modify_eq_self (by omega)]
        exact ⟨M, hlt, h⟩
    · exact ⟨M, hlt, h⟩
theorem burst_key (l : List Nat) (mask : Nat) (hb : ∀ x ∈ l, x < 256) (p : Nat) (hp : p < 8 * l.length) (h : crcs l = crcs (turns mask p 32 l)) : l = turns mask p 32 l := by
  obtain ⟨M, hM, hle⟩ := turns_le mask p l 32
  have hlen := turns_length mask p l 32
  unfold crcs at h
  rw [crc_le, crc_le, hlen, hle, ← Nat.xor_assoc, cbits_xor _ (M * 2 ^ p)] at h
  have h0 : cbits (8 * l.length) (M * 2 ^ p) = 0 := by
    have := congrArg (cbits (8 * l.length) (4294967295 ^^^ le l) ^^^ ·) h
    simp only [Nat.xor_self, ← Nat.xor_assoc, Nat.zero_xor] at this
    exact this.symm
  have e : 8 * l.length = (8 * l.length - p) + p := by omega
  rw [e, cbits_add, cbits_shift] at h0
  have hM0 := cbits_zero hM _ h0
  refine le_inj _ _ hlen.symm hb (turns_lt mask p l hb 32) ?_
  rw [hle, hM0]; simp
end Go.Proofs.Ytiajmngjhbckjaa
