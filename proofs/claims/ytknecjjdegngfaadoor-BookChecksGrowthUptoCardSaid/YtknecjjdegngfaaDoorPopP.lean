/-
  THE NUMBER OF ONE BITS: by halving, and by lanes side by side (math/bits.OnesCount64's way). Plain.
-/

namespace Go.Aff
/-- how many one bits -/
def pc (n : Nat) : Nat := if h : n = 0 then 0 else n % 2 + pc (n / 2)
termination_by n
decreasing_by omega
theorem pc_zero : pc 0 = 0 := by unfold pc; rfl
theorem pc_step (n : Nat) : pc n = n % 2 + pc (n / 2) := by
  rcases Nat.eq_zero_or_pos n with h | h
  · subst h; simp [pc_zero]
  · conv => lhs; unfold pc
    rw [dif_neg (by omega)]
theorem pc_split (w : Nat) : ∀ a b, b < 2 ^ w → pc (a * 2 ^ w + b) = pc a + pc b := by
  induction w with
  | zero =>
    intro a b h
    have : b = 0 := by simpa using h
    subst this
    simp [pc_zero]
  | succ w ih =>
    intro a b h
    have e : (a * 2 ^ (w + 1) + b) / 2 = a * 2 ^ w + b / 2 := by
      rw [Nat.pow_succ, ← Nat.mul_assoc]
      omega
    have e2 : (a * 2 ^ (w + 1) + b) % 2 = b % 2 := by
      rw [Nat.pow_succ, ← Nat.mul_assoc]
      omega
    have hb : b / 2 < 2 ^ w := by rw [Nat.pow_succ] at h; omega
    rw [pc_step, e, e2, ih a (b / 2) hb, pc_step b]
    omega
theorem pc_le (w : Nat) : ∀ a, a < 2 ^ w → pc a ≤ w := by
  induction w with
  | zero =>
    intro a h
    have : a = 0 := by simpa using h
    subst this
    simp [pc_zero]
  | succ w ih =>
    intro a h
    have hb : a / 2 < 2 ^ w := by rw [Nat.pow_succ] at h; omega
    have := ih _ hb
    rw [pc_step]
    omega
/-- k lanes of w bits, each of which holds how many one bits x has there -/
def lanes (w : Nat) : Nat → Nat → Nat
  | 0, _ => 0
  | k + 1, x => 2 ^ w * lanes w k (x / 2 ^ w) + pc (x % 2 ^ w)
/-- the low halves of k lanes of 2 w bits -/
def lows (w : Nat) : Nat → Nat
  | 0 => 0
  | k + 1 => 2 ^ (w + w) * lows w k + (2 ^ w - 1)
theorem and_cut (k x y : Nat) : x &&& y = 2 ^ k * ((x / 2 ^ k) &&& (y / 2 ^ k)) + ((x % 2 ^ k) &&& (y % 2 ^ k)) := by
  have h1 := Nat.div_add_mod (x &&& y) (2 ^ k)
  rw [Nat.and_div_two_pow, Nat.and_mod_two_pow] at h1
  exact h1.symm
theorem and_lows (w : Nat) : ∀ k x, x &&& lows w (k + 1) = 2 ^ (w + w) * ((x / 2 ^ (w + w)) &&& lows w k) + x % 2 ^ w := by
  intro k x
  have hp : 0 < 2 ^ w := Nat.two_pow_pos w
  have hlt : 2 ^ w - 1 < 2 ^ (w + w) := by
    have : 2 ^ w ≤ 2 ^ (w + w) := Nat.pow_le_pow_right (by omega) (by omega)
    omega
  rw [and_cut (w + w)]
  have e1 : lows w (k + 1) / 2 ^ (w + w) = lows w k := by
    show (2 ^ (w + w) * lows w k + (2 ^ w - 1)) / 2 ^ (w + w) = lows w k
    rw [Nat.mul_add_div (Nat.two_pow_pos _), Nat.div_eq_of_lt hlt, Nat.add_zero]
  have e2 : lows w (k + 1) % 2 ^ (w + w) = 2 ^ w - 1 := by
    show (2 ^ (w + w) * lows w k + (2 ^ w - 1)) % 2 ^ (w + w) = 2 ^ w - 1
    rw [Nat.mul_add_mod, Nat.mod_eq_of_lt hlt]
  rw [e1, e2, Nat.and_two_pow_sub_one_eq_mod, Nat.mod_mod_of_dvd _ (Nat.pow_dvd_pow 2 (by omega))]
theorem lanes_step (w : Nat) : ∀ k x, (lanes w (k + k) x / 2 ^ w &&& lows w k) + (lanes w (k + k) x &&& lows w k) = lanes (w + w) k x := by
  intro k
  induction k with
  | zero => intro x; simp [lanes, lows]
  | succ k ih =>
    intro x
    have hp : 0 < 2 ^ w := Nat.two_pow_pos w
    have hww : w < 2 ^ w := Nat.lt_two_pow_self
    have e : k + 1 + (k + 1) = k + k + 1 + 1 := by omega
    rw [e]
    have hL : lanes w (k + k + 1 + 1) x = 2 ^ w * (2 ^ w * lanes w (k + k) (x / 2 ^ w / 2 ^ w) + pc (x / 2 ^ w % 2 ^ w)) + pc (x % 2 ^ w) := rfl
    have p0 : pc (x % 2 ^ w) < 2 ^ w := Nat.lt_of_le_of_lt (pc_le w _ (Nat.mod_lt _ hp)) hww
    have p1 : pc (x / 2 ^ w % 2 ^ w) < 2 ^ w := Nat.lt_of_le_of_lt (pc_le w _ (Nat.mod_lt _ hp)) hww
    generalize hq0 : pc (x % 2 ^ w) = q0 at *
    generalize hq1 : pc (x / 2 ^ w % 2 ^ w) = q1 at *
    have e1 : lanes w (k + k + 1 + 1) x / 2 ^ w = 2 ^ w * lanes w (k + k) (x / 2 ^ w / 2 ^ w) + q1 := by
      rw [hL, Nat.mul_add_div hp, Nat.div_eq_of_lt p0, Nat.add_zero]
    have e2 : lanes w (k + k + 1 + 1) x % 2 ^ w = q0 := by rw [hL, Nat.mul_add_mod, Nat.mod_eq_of_lt p0]
    have e3 : lanes w (k + k + 1 + 1) x / 2 ^ (w + w) = lanes w (k + k) (x / 2 ^ w / 2 ^ w) := by
      rw [Nat.pow_add, ← Nat.div_div_eq_div_mul, e1, Nat.mul_add_div hp, Nat.div_eq_of_lt p1, Nat.add_zero]
    have e4 : lanes w (k + k + 1 + 1) x / 2 ^ w / 2 ^ (w + w) = lanes w (k + k) (x / 2 ^ w / 2 ^ w) / 2 ^ w := by
      rw [Nat.div_div_eq_div_mul, Nat.mul_comm, ← Nat.div_div_eq_div_mul, e3]
    have e5 : lanes w (k + k + 1 + 1) x / 2 ^ w % 2 ^ w = q1 := by rw [e1, Nat.mul_add_mod, Nat.mod_eq_of_lt p1]
    rw [and_lows, and_lows, e4, e5, e3, e2]
    have hx : x / 2 ^ w / 2 ^ w = x / 2 ^ (w + w) := by rw [Nat.pow_add, Nat.div_div_eq_div_mul]
    have hI := ih (x / 2 ^ (w + w))
    rw [hx]
    show _ = 2 ^ (w + w) * lanes (w + w) k (x / 2 ^ (w + w)) + pc (x % 2 ^ (w + w))
    rw [← hI, Nat.mul_add]
    have hm : x % 2 ^ (w + w) = x / 2 ^ w % 2 ^ w * 2 ^ w + x % 2 ^ w := by
      rw [Nat.pow_add, Nat.mod_mul]
      rw [Nat.mul_comm, Nat.add_comm]
    have hs : pc (x % 2 ^ (w + w)) = q1 + q0 := by rw [hm, pc_split w _ _ (Nat.mod_lt _ hp), hq0, hq1]
    rw [hs]
    omega
theorem lanes_one : ∀ k x, x < 2 ^ k → lanes 1 k x = x := by
  intro k
  induction k with
  | zero => intro x h; have : x = 0 := by simpa using h
            subst this; rfl
  | succ k ih =>
    intro x h
    have h2 : x / 2 < 2 ^ k := by rw [Nat.pow_succ] at h; omega
    show 2 ^ 1 * lanes 1 k (x / 2 ^ 1) + pc (x % 2 ^ 1) = x
    simp only [Nat.pow_one]
    rw [ih _ h2]
    have : pc (x % 2) = x % 2 := by
      rcases Nat.mod_two_eq_zero_or_one x with e | e <;> rw [e]
      · exact pc_zero
      · rw [pc_step]; simp [pc_zero]
    omega
theorem lanes_mod (w : Nat) : ∀ k x, lanes w k x % 2 ^ w ≤ w := by
  intro k x
  cases k with
  | zero => simp [lanes]
  | succ k =>
    have p0 := pc_le w _ (Nat.mod_lt x (Nat.two_pow_pos w))
    have h : lanes w (k + 1) x = 2 ^ w * lanes w k (x / 2 ^ w) + pc (x % 2 ^ w) := rfl
    rw [h, Nat.mul_add_mod, Nat.mod_eq_of_lt (Nat.lt_of_le_of_lt p0 Nat.lt_two_pow_self)]
    exact p0
theorem and_lows_add (w k a b R : Nat) (ha : a < 2 ^ w) (hb : b < 2 ^ w) : (2 ^ (w + w) * R + (2 ^ w * b + a)) &&& lows w (k + 1) = 2 ^ (w + w) * (R &&& lows w k) + a := by
  have h1 : 2 ^ w * b + a < 2 ^ (w + w) := by
    rw [Nat.pow_add]
    have : 2 ^ w * b + 2 ^ w ≤ 2 ^ w * 2 ^ w := by
      have h := Nat.mul_le_mul_left (2 ^ w) (show b + 1 ≤ 2 ^ w from hb)
      rw [Nat.mul_add, Nat.mul_one] at h
      exact h
    omega
  rw [and_lows, Nat.mul_add_div (Nat.two_pow_pos _), Nat.div_eq_of_lt h1, Nat.add_zero]
  congr 1
  rw [Nat.pow_add, Nat.mul_assoc, Nat.mul_add_mod, Nat.mul_add_mod, Nat.mod_eq_of_lt ha]
theorem lanes_step2 (w : Nat) (hw : w + w < 2 ^ w) : ∀ k x, (lanes w (k + k) x / 2 ^ w + lanes w (k + k) x) &&& lows w k = lanes (w + w) k x := by
  intro k
  induction k with
  | zero => intro x; simp [lanes, lows]
  | succ k ih =>
    intro x
    have hp : 0 < 2 ^ w := Nat.two_pow_pos w
    have e : k + 1 + (k + 1) = k + k + 1 + 1 := by omega
    rw [e]
    have hL : lanes w (k + k + 1 + 1) x = 2 ^ w * (2 ^ w * lanes w (k + k) (x / 2 ^ w / 2 ^ w) + pc (x / 2 ^ w % 2 ^ w)) + pc (x % 2 ^ w) := rfl
    have p0 := pc_le w (x % 2 ^ w) (Nat.mod_lt _ hp)
    have p1 := pc_le w (x / 2 ^ w % 2 ^ w) (Nat.mod_lt _ hp)
    have r0 : pc (x % 2 ^ w) < 2 ^ w := by omega
    have hm : x % 2 ^ (w + w) = x / 2 ^ w % 2 ^ w * 2 ^ w + x % 2 ^ w := by
      rw [Nat.pow_add, Nat.mod_mul]
      rw [Nat.mul_comm, Nat.add_comm]
    have hs : pc (x % 2 ^ (w + w)) = pc (x / 2 ^ w % 2 ^ w) + pc (x % 2 ^ w) := by rw [hm, pc_split w _ _ (Nat.mod_lt _ hp)]
    have hx : x / 2 ^ w / 2 ^ w = x / 2 ^ (w + w) := by rw [Nat.pow_add, Nat.div_div_eq_div_mul]
    have hI := ih (x / 2 ^ (w + w))
    have p2 := lanes_mod w (k + k) (x / 2 ^ (w + w))
    show _ = 2 ^ (w + w) * lanes (w + w) k (x / 2 ^ (w + w)) + pc (x % 2 ^ (w + w))
    rw [hs, ← hI]
    rw [hx] at hL
    have e1 : lanes w (k + k + 1 + 1) x / 2 ^ w = 2 ^ w * lanes w (k + k) (x / 2 ^ (w + w)) + pc (x / 2 ^ w % 2 ^ w) := by
      rw [hL, Nat.mul_add_div hp, Nat.div_eq_of_lt r0, Nat.add_zero]
    rw [e1, hL]
    generalize lanes w (k + k) (x / 2 ^ (w + w)) = L at *
    generalize pc (x % 2 ^ w) = q0 at *
    generalize pc (x / 2 ^ w % 2 ^ w) = q1 at *
    have hd := Nat.div_add_mod L (2 ^ w)
    rw [← and_lows_add w k (q1 + q0) (q1 + L % 2 ^ w) (L / 2 ^ w + L) (by omega) (by omega)]
    congr 1
    rw [Nat.pow_add]
    generalize 2 ^ w = p at *
    have h1 : p * p * (L / p + L) = p * (p * (L / p)) + p * (p * L) := by rw [Nat.mul_add, Nat.mul_assoc, Nat.mul_assoc]
    have h2 : p * (q1 + L % p) = p * q1 + p * (L % p) := Nat.mul_add _ _ _
    have h3 : p * L = p * (p * (L / p)) + p * (L % p) := by rw [← Nat.mul_add, hd]
    have h4 : p * (p * L + q1) = p * (p * L) + p * q1 := Nat.mul_add _ _ _
    omega
theorem pc_eight (x : Nat) (h : x < 2 ^ 64) : ∃ a b c d e f g i : Nat, a ≤ 8 ∧ b ≤ 8 ∧ c ≤ 8 ∧ d ≤ 8 ∧ e ≤ 8 ∧ f ≤ 8 ∧ g ≤ 8 ∧ i ≤ 8 ∧
    lanes 8 8 x = a + 256 * (b + 256 * (c + 256 * (d + 256 * (e + 256 * (f + 256 * (g + 256 * i)))))) ∧ pc x = a + b + c + d + e + f + g + i := by
  have hp : ∀ y, pc (y % 256) ≤ 8 := fun y => pc_le 8 _ (Nat.mod_lt _ (by decide))
  have st : ∀ y, pc y = pc (y / 256) + pc (y % 256) := fun y => by
    have := pc_split 8 (y / 256) (y % 256) (Nat.mod_lt _ (by decide))
    rw [← this]
    congr 1
    omega
  refine ⟨_, _, _, _, _, _, _, _, hp x, hp (x / 256), hp (x / 256 / 256), hp (x / 256 / 256 / 256), hp (x / 256 / 256 / 256 / 256), hp (x / 256 / 256 / 256 / 256 / 256), hp (x / 256 / 256 / 256 / 256 / 256 / 256), hp (x / 256 / 256 / 256 / 256 / 256 / 256 / 256), ?_, ?_⟩
  · simp only [lanes, show (2 : Nat) ^ 8 = 256 from rfl]
    omega
  · rw [st x, st (x / 256), st (x / 256 / 256), st (x / 256 / 256 / 256), st (x / 256 / 256 / 256 / 256), st (x / 256 / 256 / 256 / 256 / 256), st (x / 256 / 256 / 256 / 256 / 256 / 256), st (x / 256 / 256 / 256 / 256 / 256 / 256 / 256)]
    have e0 : x / 256 / 256 / 256 / 256 / 256 / 256 / 256 / 256 = 0 := by omega
    rw [e0, pc_zero]
    omega
/-- math/bits.OnesCount64, step by step -/
def swar (x : Nat) : Nat :=
  let x1 := (x / 2 &&& 6148914691236517205) + (x &&& 6148914691236517205)
  let x2 := (x1 / 4 &&& 3689348814741910323) + (x1 &&& 3689348814741910323)
  (x2 / 16 + x2) &&& 1085102592571150095
theorem swar_eq (x : Nat) (h : x < 2 ^ 64) : swar x = lanes 8 8 x := by
  have s1 := lanes_step 1 32 x
  have s2 := lanes_step 2 16 x
  have s3 := lanes_step2 4 (by decide) 8 x
  rw [lanes_one 64 x h] at s1
  have m1 : lows 1 32 = 6148914691236517205 := by decide +kernel
  have m2 : lows 2 16 = 3689348814741910323 := by decide +kernel
  have m3 : lows 4 8 = 1085102592571150095 := by decide +kernel
  simp only [m1, m2, m3, Nat.pow_one, show (2 : Nat) ^ 2 = 4 from rfl, show (2 : Nat) ^ 4 = 16 from rfl, Nat.reduceAdd] at s1 s2 s3
  show ((_ / 4 &&& 3689348814741910323) + (_ &&& 3689348814741910323)) / 16 + ((_ / 4 &&& 3689348814741910323) + (_ &&& 3689348814741910323)) &&& 1085102592571150095 = _
  rw [s1, s2, s3]
theorem byte_cut (p q : Nat) (hp : p < 256) : (p + 256 * q) / 256 = q := by omega
theorem sum1 (a b c d e f g i : Nat) : ((a) + 256 * ((b) + 256 * ((c) + 256 * ((d) + 256 * ((e) + 256 * ((f) + 256 * ((g) + 256 * ((i))))))))) + ((b) + 256 * ((c) + 256 * ((d) + 256 * ((e) + 256 * ((f) + 256 * ((g) + 256 * ((i)))))))) = (a + b) + 256 * ((b + c) + 256 * ((c + d) + 256 * ((d + e) + 256 * ((e + f) + 256 * ((f + g) + 256 * ((g + i) + 256 * ((i)))))))) := by omega
theorem sum2 (a b c d e f g i : Nat) : ((a + b) + 256 * ((b + c) + 256 * ((c + d) + 256 * ((d + e) + 256 * ((e + f) + 256 * ((f + g) + 256 * ((g + i) + 256 * ((i))))))))) + ((c + d) + 256 * ((d + e) + 256 * ((e + f) + 256 * ((f + g) + 256 * ((g + i) + 256 * ((i))))))) = (a + b + c + d) + 256 * ((b + c + d + e) + 256 * ((c + d + e + f) + 256 * ((d + e + f + g) + 256 * ((e + f + g + i) + 256 * ((f + g + i) + 256 * ((g + i) + 256 * ((i)))))))) := by omega
theorem sum4 (a b c d e f g i : Nat) : ((a + b + c + d) + 256 * ((b + c + d + e) + 256 * ((c + d + e + f) + 256 * ((d + e + f + g) + 256 * ((e + f + g + i) + 256 * ((f + g + i) + 256 * ((g + i) + 256 * ((i))))))))) + ((e + f + g + i) + 256 * ((f + g + i) + 256 * ((g + i) + 256 * ((i))))) = (a + b + c + d + e + f + g + i) + 256 * ((b + c + d + e + f + g + i) + 256 * ((c + d + e + f + g + i) + 256 * ((d + e + f + g + i) + 256 * ((e + f + g + i) + 256 * ((f + g + i) + 256 * ((g + i) + 256 * ((i)))))))) := by omega
theorem low (p q : Nat) (hp : p < 128) : (p + 256 * q) % 128 = p := by omega
theorem fit (p q : Nat) (n : Nat) (hp : p < 256) (hq : q < n) : p + 256 * q < 256 * n := by omega
set_option linter.unusedVariables false in
theorem swar_row (a b c d e f g i y : Nat) (ha : a ≤ 8) (hb : b ≤ 8) (hc : c ≤ 8) (hd : d ≤ 8) (he : e ≤ 8) (hf : f ≤ 8) (hg : g ≤ 8) (hi : i ≤ 8) (hy : y = (a) + 256 * ((b) + 256 * ((c) + 256 * ((d) + 256 * ((e) + 256 * ((f) + 256 * ((g) + 256 * ((i))))))))) :
    y + y / 256 = (a + b) + 256 * ((b + c) + 256 * ((c + d) + 256 * ((d + e) + 256 * ((e + f) + 256 * ((f + g) + 256 * ((g + i) + 256 * ((i)))))))) ∧ (y + y / 256) + (y + y / 256) / 65536 = (a + b + c + d) + 256 * ((b + c + d + e) + 256 * ((c + d + e + f) + 256 * ((d + e + f + g) + 256 * ((e + f + g + i) + 256 * ((f + g + i) + 256 * ((g + i) + 256 * ((i)))))))) ∧ ((y + y / 256) + (y + y / 256) / 65536) + ((y + y / 256) + (y + y / 256) / 65536) / 4294967296 = (a + b + c + d + e + f + g + i) + 256 * ((b + c + d + e + f + g + i) + 256 * ((c + d + e + f + g + i) + 256 * ((d + e + f + g + i) + 256 * ((e + f + g + i) + 256 * ((f + g + i) + 256 * ((g + i) + 256 * ((i)))))))) := by
  have h1 : y / 256 = (b) + 256 * ((c) + 256 * ((d) + 256 * ((e) + 256 * ((f) + 256 * ((g) + 256 * ((i))))))) := by rw [hy]; exact byte_cut _ _ (by clear hy; omega)
  have e1 : y + y / 256 = (a + b) + 256 * ((b + c) + 256 * ((c + d) + 256 * ((d + e) + 256 * ((e + f) + 256 * ((f + g) + 256 * ((g + i) + 256 * ((i)))))))) := by rw [h1, hy]; exact sum1 a b c d e f g i
  have h2 : (y + y / 256) / 65536 = (c + d) + 256 * ((d + e) + 256 * ((e + f) + 256 * ((f + g) + 256 * ((g + i) + 256 * ((i)))))) := by
    rw [show (65536 : Nat) = 256 * 256 from rfl, ← Nat.div_div_eq_div_mul, e1]
    clear e1 h1 hy
    rw [byte_cut _ _ (by omega), byte_cut _ _ (by omega)]
  have e2 : (y + y / 256) + (y + y / 256) / 65536 = (a + b + c + d) + 256 * ((b + c + d + e) + 256 * ((c + d + e + f) + 256 * ((d + e + f + g) + 256 * ((e + f + g + i) + 256 * ((f + g + i) + 256 * ((g + i) + 256 * ((i)))))))) := by rw [h2, e1]; exact sum2 a b c d e f g i
  have h3 : ((y + y / 256) + (y + y / 256) / 65536) / 4294967296 = (e + f + g + i) + 256 * ((f + g + i) + 256 * ((g + i) + 256 * ((i)))) := by
    rw [show (4294967296 : Nat) = 256 * 256 * 256 * 256 from rfl, ← Nat.div_div_eq_div_mul, ← Nat.div_div_eq_div_mul, ← Nat.div_div_eq_div_mul, e2]
    clear e2 h2 e1 h1 hy
    rw [byte_cut _ _ (by omega), byte_cut _ _ (by omega), byte_cut _ _ (by omega), byte_cut _ _ (by omega)]
  refine ⟨e1, e2, ?_⟩
  rw [h3, e2]
  exact sum4 a b c d e f g i
theorem row_lt (a b c d e f g i : Nat) (ha : a ≤ 64) (hb : b ≤ 64) (hc : c ≤ 64) (hd : d ≤ 64) (he : e ≤ 64) (hf : f ≤ 64) (hg : g ≤ 64) (hi : i ≤ 64) : (a) + 256 * ((b) + 256 * ((c) + 256 * ((d) + 256 * ((e) + 256 * ((f) + 256 * ((g) + 256 * ((i)))))))) < 9223372036854775808 := by omega
theorem swar_end (x : Nat) (h : x < 2 ^ 64) : ∀ y, y = swar x → let y1 := y + y / 256; let y2 := y1 + y1 / 65536; let y3 := y2 + y2 / 4294967296; y1 < 2 ^ 63 ∧ y2 < 2 ^ 63 ∧ y3 < 2 ^ 63 ∧ y3 % 128 = pc x := by
  intro y hy
  rw [swar_eq x h] at hy
  obtain ⟨a, b, c, d, e, f, g, i, ha, hb, hc, hd, he, hf, hg, hi, hl, hpc⟩ := pc_eight x h
  rw [hl] at hy
  obtain ⟨e1, e2, e3⟩ := swar_row a b c d e f g i y ha hb hc hd he hf hg hi hy
  clear hl hy
  simp only
  refine ⟨?_, ?_, ?_, ?_⟩
  · rw [e1]; clear e1 e2 e3 hpc; exact row_lt _ _ _ _ _ _ _ _ (by omega) (by omega) (by omega) (by omega) (by omega) (by omega) (by omega) (by omega)
  · rw [e2]; clear e1 e2 e3 hpc; exact row_lt _ _ _ _ _ _ _ _ (by omega) (by omega) (by omega) (by omega) (by omega) (by omega) (by omega) (by omega)
  · rw [e3]; clear e1 e2 e3 hpc; exact row_lt _ _ _ _ _ _ _ _ (by omega) (by omega) (by omega) (by omega) (by omega) (by omega) (by omega) (by omega)
  · rw [e3, hpc]; clear e1 e2 e3 hpc; exact low _ _ (by omega)
end Go.Aff
