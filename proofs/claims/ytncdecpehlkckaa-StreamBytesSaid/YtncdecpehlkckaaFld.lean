/-
The field of 256 numbers, as plain functions on bytes: the product, powers of 3, and the laws of a field. No condition.
-/
namespace Lg

abbrev B := UInt8

/-- times x -/
def xt (a : B) : B := (a <<< 1) ^^^ (if a >>> 7 == 1 then 0x1b else 0)

/-- the product: n bits of b, the lowest first -/
def mulGo : Nat → B → B → B
  | 0, _, _ => 0
  | n + 1, a, b => (if b &&& 1 == 1 then a else 0) ^^^ mulGo n (xt a) (b >>> 1)

def mul (a b : B) : B := mulGo 8 a b

theorem all_bytes {p : B → Prop} (h : ∀ n, n < 256 → p (UInt8.ofNat n)) (a : B) : p a := by
  have := h a.toNat a.toNat_lt
  rwa [UInt8.ofNat_toNat] at this

theorem xor_comm (a b : B) : a ^^^ b = b ^^^ a := UInt8.xor_comm a b
theorem xor_assoc (a b c : B) : a ^^^ b ^^^ c = a ^^^ (b ^^^ c) := UInt8.xor_assoc a b c
theorem xor_left_comm (a b c : B) : a ^^^ (b ^^^ c) = b ^^^ (a ^^^ c) := by
  rw [← xor_assoc, xor_comm a b, xor_assoc]
theorem xor_self (a : B) : a ^^^ a = 0 := UInt8.xor_self
theorem xor_zero (a : B) : a ^^^ 0 = a := UInt8.xor_zero
theorem zero_xor (a : B) : 0 ^^^ a = a := UInt8.zero_xor
theorem xor_cancel (a b : B) : a ^^^ (a ^^^ b) = b := by rw [← xor_assoc, xor_self, zero_xor]
theorem xor_eq_zero {a b : B} : a ^^^ b = 0 ↔ a = b := UInt8.xor_eq_zero_iff
theorem xor4 (a b c d : B) : (a ^^^ b) ^^^ (c ^^^ d) = (a ^^^ c) ^^^ (b ^^^ d) := by
  rw [xor_assoc, xor_assoc, xor_left_comm b c d]

theorem top_bit (a : B) : a >>> 7 = 0 ∨ a >>> 7 = 1 := by
  revert a; exact all_bytes (by decide +kernel)
theorem low_bit (a : B) : a &&& 1 = 0 ∨ a &&& 1 = 1 := by
  revert a; exact all_bytes (by decide +kernel)

theorem xt_add (a b : B) : xt (a ^^^ b) = xt a ^^^ xt b := by
  have h : (if (a ^^^ b) >>> 7 == 1 then (0x1b : B) else 0) = (if a >>> 7 == 1 then 0x1b else 0) ^^^ (if b >>> 7 == 1 then 0x1b else 0) := by
    rw [UInt8.shiftRight_xor]
    rcases top_bit a with e | e <;> rcases top_bit b with f | f <;> rw [e, f] <;> decide
  unfold xt
  rw [h, UInt8.shiftLeft_xor, xor4]

theorem xt_zero : xt 0 = 0 := by decide

theorem mulGo_zero (n : Nat) (b : B) : mulGo n 0 b = 0 := by
  induction n generalizing b with
  | zero => rfl
  | succ n ih =>
    unfold mulGo; rw [xt_zero, ih, xor_zero]; split <;> rfl

theorem mulGo_add (n : Nat) (a c b : B) : mulGo n (a ^^^ c) b = mulGo n a b ^^^ mulGo n c b := by
  induction n generalizing a c b with
  | zero => simp [mulGo]
  | succ n ih =>
    unfold mulGo; rw [xt_add, ih]
    split
    · rw [xor4]
    · rw [zero_xor, zero_xor, zero_xor]

theorem mulGo_xt (n : Nat) (a b : B) : mulGo n (xt a) b = xt (mulGo n a b) := by
  induction n generalizing a b with
  | zero => simp [mulGo, xt_zero]
  | succ n ih =>
    unfold mulGo; rw [ih, xt_add]
    split
    · rfl
    · rw [xt_zero]

theorem zero_mul (b : B) : mul 0 b = 0 := mulGo_zero 8 b
theorem add_mul (a c b : B) : mul (a ^^^ c) b = mul a b ^^^ mul c b := mulGo_add 8 a c b
theorem xt_mul (a b : B) : mul (xt a) b = xt (mul a b) := mulGo_xt 8 a b
theorem one_mul (b : B) : mul 1 b = b := by
  revert b; exact all_bytes (by decide +kernel)

/-- times 3 -/
def m3 (a : B) : B := xt a ^^^ a
theorem m3_mul (a b : B) : mul (m3 a) b = m3 (mul a b) := by unfold m3; rw [add_mul, xt_mul]

/-- powers of 3 -/
def pw : Nat → B
  | 0 => 1
  | n + 1 => m3 (pw n)

def m3n : Nat → B → B
  | 0, b => b
  | n + 1, b => m3 (m3n n b)

theorem pw_mul (n : Nat) (b : B) : mul (pw n) b = m3n n b := by
  induction n with
  | zero => exact one_mul b
  | succ n ih => rw [pw, m3_mul, ih]; rfl

theorem m3n_pw (n k : Nat) : m3n n (pw k) = pw (n + k) := by
  induction n with
  | zero => rw [Nat.zero_add]; rfl
  | succ n ih => rw [m3n, ih, Nat.succ_add]; rfl

theorem pw_mul_pw (n k : Nat) : mul (pw n) (pw k) = pw (n + k) := by rw [pw_mul, m3n_pw]

/-- the first so many powers of 3, and what comes next -/
def pwList : Nat → B → List B
  | 0, _ => []
  | n + 1, a => a :: pwList n (m3 a)

theorem pwList_length (n : Nat) (a : B) : (pwList n a).length = n := by
  induction n generalizing a with
  | zero => rfl
  | succ n ih => rw [pwList, List.length_cons, ih]

theorem pwList_get (n k i : Nat) (h : i < n) : (pwList n (pw k))[i]? = some (pw (k + i)) := by
  induction n generalizing k i with
  | zero => omega
  | succ n ih =>
    cases i with
    | zero => rfl
    | succ i =>
      rw [pwList, List.getElem?_cons_succ]
      have := ih (k + 1) i (by omega)
      rw [show k + 1 + i = k + (i + 1) by omega] at this
      exact this

theorem pw_255 : pw 255 = 1 := by decide +kernel

theorem pw_add_255 (n : Nat) : pw (n + 255) = pw n := by
  rw [← pw_mul_pw, pw_255, pw_mul]
  have := m3n_pw n 0
  exact this

theorem pw_mod (n : Nat) : pw (n % 255) = pw n := by
  induction n using Nat.strongRecOn with
  | _ n ih =>
    by_cases h : n < 255
    · rw [Nat.mod_eq_of_lt h]
    · have := ih (n - 255) (by omega)
      rw [show n = (n - 255) + 255 by omega, Nat.add_mod_right, this, pw_add_255]

/-- which power of 3 a number is: looked up -/
def lg (a : B) : Nat := (pwList 255 1).idxOf a

theorem lg_pw_lt : ∀ n, n < 255 → lg (pw n) = n := by decide +kernel
theorem lg_lt' : ∀ n, n < 256 → UInt8.ofNat n ≠ 0 → lg (UInt8.ofNat n) < 255 ∧ pw (lg (UInt8.ofNat n)) = UInt8.ofNat n := by decide +kernel
theorem lg_lt {a : B} (h : a ≠ 0) : lg a < 255 :=
  (all_bytes (p := fun a => a ≠ 0 → lg a < 255 ∧ pw (lg a) = a) lg_lt' a h).1
theorem pw_lg {a : B} (h : a ≠ 0) : pw (lg a) = a :=
  (all_bytes (p := fun a => a ≠ 0 → lg a < 255 ∧ pw (lg a) = a) lg_lt' a h).2
theorem pw_ne' : ∀ n, n < 255 → pw n ≠ 0 := by decide +kernel
theorem pw_ne (n : Nat) : pw n ≠ 0 := by
  rw [← pw_mod]; exact pw_ne' _ (Nat.mod_lt _ (by omega))

theorem mul_pw {a b : B} (ha : a ≠ 0) (hb : b ≠ 0) : mul a b = pw (lg a + lg b) := by
  rw [← pw_mul_pw, pw_lg ha, pw_lg hb]

theorem mul_zero (a : B) : mul a 0 = 0 := by
  revert a; exact all_bytes (by decide +kernel)
theorem mul_one (a : B) : mul a 1 = a := by
  revert a; exact all_bytes (by decide +kernel)

theorem mul_comm (a b : B) : mul a b = mul b a := by
  by_cases ha : a = 0
  · rw [ha, zero_mul, mul_zero]
  · by_cases hb : b = 0
    · rw [hb, zero_mul, mul_zero]
    · rw [mul_pw ha hb, mul_pw hb ha, Nat.add_comm]

theorem mul_ne {a b : B} (ha : a ≠ 0) (hb : b ≠ 0) : mul a b ≠ 0 := by
  rw [mul_pw ha hb]; exact pw_ne _

theorem mul_eq_zero {a b : B} : mul a b = 0 ↔ a = 0 ∨ b = 0 := by
  constructor
  · intro h
    by_cases ha : a = 0
    · exact .inl ha
    · by_cases hb : b = 0
      · exact .inr hb
      · exact absurd h (mul_ne ha hb)
  · rintro (h | h)
    · rw [h, zero_mul]
    · rw [h, mul_zero]

theorem mul_assoc (a b c : B) : mul (mul a b) c = mul a (mul b c) := by
  by_cases ha : a = 0
  · rw [ha, zero_mul, zero_mul, zero_mul]
  · by_cases hb : b = 0
    · rw [hb, mul_zero, zero_mul, mul_zero]
    · by_cases hc : c = 0
      · rw [hc, mul_zero, mul_zero, mul_zero]
      · rw [← pw_lg ha, ← pw_lg hb, ← pw_lg hc, pw_mul_pw, pw_mul_pw, pw_mul_pw, pw_mul_pw, Nat.add_assoc]

theorem mul_add (a b c : B) : mul a (b ^^^ c) = mul a b ^^^ mul a c := by
  rw [mul_comm, add_mul, mul_comm b, mul_comm c]

theorem mul_left_comm (a b c : B) : mul a (mul b c) = mul b (mul a c) := by
  rw [← mul_assoc, mul_comm a b, mul_assoc]

/-- the inverse; of 0 it is 0 -/
def inv (a : B) : B := if a = 0 then 0 else pw (255 - lg a)

theorem inv_zero : inv 0 = 0 := by decide
theorem inv_ne {a : B} (h : a ≠ 0) : inv a ≠ 0 := by rw [inv, if_neg h]; exact pw_ne _
theorem mul_inv {a : B} (h : a ≠ 0) : mul a (inv a) = 1 := by
  have h1 := lg_lt h
  rw [inv, if_neg h]
  conv => lhs; arg 1; rw [← pw_lg h]
  rw [pw_mul_pw, show lg a + (255 - lg a) = 255 by omega, pw_255]
theorem inv_mul {a : B} (h : a ≠ 0) : mul (inv a) a = 1 := by rw [mul_comm, mul_inv h]

theorem mul_cancel {a b c : B} (h : a ≠ 0) (e : mul a b = mul a c) : b = c := by
  have : mul (inv a) (mul a b) = mul (inv a) (mul a c) := by rw [e]
  rwa [← mul_assoc, ← mul_assoc, inv_mul h, one_mul, one_mul] at this

theorem inv_unique {a b : B} (h : mul a b = 1) : b = inv a := by
  have ha : a ≠ 0 := by intro e; rw [e, zero_mul] at h; exact absurd h (by decide)
  exact mul_cancel ha (by rw [h, mul_inv ha])

end Lg
