/-
  PLAIN MATHEMATICS OF CRC-32, no Go in sight. 'cstep': one bit of division (multiplying a residue by x in reflected order); 'le': a byte string as one number, least byte first;
  'run r bs': the register r driven through the bytes bs. The one law: run r bs = cstep^(8 n) (r xor le bs).
-/
namespace Go.Proofs.Qxb6500698aGreatDoor.Crc

def poly : Nat := 3988292384
def ones : Nat := 4294967295

/-- One bit of the division. -/
def cstep (x : Nat) : Nat := x / 2 ^^^ (if x % 2 = 1 then poly else 0)

def steps : Nat → Nat → Nat
  | 0, x => x
  | n + 1, x => steps n (cstep x)

theorem steps_add (a b x : Nat) : steps (a + b) x = steps b (steps a x) := by
  induction a generalizing x with
  | zero => simp [steps]
  | succ a ih => rw [show a + 1 + b = (a + b) + 1 by omega]; simp only [steps]; exact ih _

theorem steps_succ (n x : Nat) : steps (n + 1) x = cstep (steps n x) := steps_add n 1 x

theorem xor_div2 (x y : Nat) : (x ^^^ y) / 2 = x / 2 ^^^ y / 2 := by
  have := Nat.xor_div_two_pow (a := x) (b := y) (n := 1); simpa using this
theorem xor_mod2 (x y : Nat) : (x ^^^ y) % 2 = (x % 2 ^^^ y % 2) := by
  have := Nat.xor_mod_two_pow (a := x) (b := y) (n := 1); simpa using this

theorem cstep_xor (x y : Nat) : cstep (x ^^^ y) = cstep x ^^^ cstep y := by
  unfold cstep
  rw [xor_div2, xor_mod2]
  have hx : x % 2 = 0 ∨ x % 2 = 1 := by omega
  have hy : y % 2 = 0 ∨ y % 2 = 1 := by omega
  rcases hx with hx | hx <;> rcases hy with hy | hy <;> rw [hx, hy]
  · simp
  · simp [Nat.xor_assoc]
  · simp only [Nat.xor_zero, if_true, if_neg (show ¬ (0 : Nat) = 1 by decide)]
    rw [Nat.xor_assoc, Nat.xor_assoc, Nat.xor_comm (y / 2) poly]
  · simp only [Nat.xor_self, if_neg (show ¬ (0 : Nat) = 1 by decide), if_true, Nat.xor_zero]
    rw [Nat.xor_assoc, ← Nat.xor_assoc poly, Nat.xor_comm poly, Nat.xor_assoc (y / 2), Nat.xor_self, Nat.xor_zero]

theorem steps_xor (n x y : Nat) : steps n (x ^^^ y) = steps n x ^^^ steps n y := by
  induction n generalizing x y with
  | zero => rfl
  | succ n ih => simp only [steps]; rw [cstep_xor, ih]

theorem cstep_zero : cstep 0 = 0 := rfl
theorem steps_zero (n : Nat) : steps n 0 = 0 := by
  induction n with
  | zero => rfl
  | succ n ih => simp only [steps, cstep_zero]; exact ih

theorem cstep_double (x : Nat) : cstep (2 * x) = x := by
  unfold cstep
  rw [if_neg (by omega), Nat.xor_zero]; omega

theorem steps_pow (n x : Nat) : steps n (2 ^ n * x) = x := by
  induction n generalizing x with
  | zero => simp [steps]
  | succ n ih => simp only [steps]; rw [show 2 ^ (n + 1) * x = 2 * (2 ^ n * x) by rw [Nat.pow_succ]; rw [Nat.mul_comm (2 ^ n) 2, Nat.mul_assoc], cstep_double]; exact ih x

theorem xor_lt32 {x y : Nat} (hx : x < 4294967296) (hy : y < 4294967296) : x ^^^ y < 4294967296 := Nat.xor_lt_two_pow (n := 32) hx hy
theorem xor_lt8 {x y : Nat} (hx : x < 256) (hy : y < 256) : x ^^^ y < 256 := Nat.xor_lt_two_pow (n := 8) hx hy

theorem cstep_lt {x : Nat} (h : x < 4294967296) : cstep x < 4294967296 := by
  unfold cstep
  exact xor_lt32 (by omega) (by split <;> simp [poly])
theorem steps_lt {x : Nat} (n : Nat) (h : x < 4294967296) : steps n x < 4294967296 := by
  induction n generalizing x with
  | zero => exact h
  | succ n ih => simp only [steps]; exact ih (cstep_lt h)

theorem cstep_inj0 {x : Nat} (h : x < 4294967296) (h0 : cstep x = 0) : x = 0 := by
  unfold cstep at h0
  by_cases hx : x % 2 = 1
  · rw [if_pos hx] at h0
    have e : x / 2 = poly := by
      have := congrArg (fun t => t ^^^ poly) h0
      simpa [Nat.xor_assoc] using this
    simp [poly] at e; omega
  · rw [if_neg hx, Nat.xor_zero] at h0; omega
theorem steps_inj0 {x : Nat} (n : Nat) (h : x < 4294967296) (h0 : steps n x = 0) : x = 0 := by
  induction n generalizing x with
  | zero => exact h0
  | succ n ih => simp only [steps] at h0; exact cstep_inj0 h (ih (cstep_lt h) h0)

/-- A byte string as one number, least byte first. -/
def le : List Nat → Nat
  | [] => 0
  | x :: xs => x + 256 * le xs

/-- x + 256 y is x xor 256 y for a byte x. -/
theorem add_xor (n x y : Nat) (h : x < 2 ^ n) : x + 2 ^ n * y = x ^^^ 2 ^ n * y := by
  apply Nat.eq_of_testBit_eq
  intro i
  rw [Nat.testBit_xor, Nat.add_comm, Nat.testBit_two_pow_mul_add y h, Nat.testBit_two_pow_mul]
  by_cases hi : i < n
  · rw [if_pos hi]
    have : decide (i ≥ n) = false := by simp; omega
    rw [this]; simp
  · rw [if_neg hi]
    have h1 : x.testBit i = false := Nat.testBit_lt_two_pow (Nat.lt_of_lt_of_le h (Nat.pow_le_pow_right (by decide) (by omega)))
    rw [h1]; simp; omega

theorem add_xor8 (x y : Nat) (h : x < 256) : x + 256 * y = x ^^^ 256 * y := add_xor 8 x y h

def runB (r x : Nat) : Nat := steps 8 (r ^^^ x)

/-- The register r driven through the bytes. -/
def run (r : Nat) : List Nat → Nat
  | [] => r
  | x :: xs => run (runB r x) xs

theorem run_append (r : Nat) (a b : List Nat) : run r (a ++ b) = run (run r a) b := by
  induction a generalizing r with
  | nil => rfl
  | cons x a ih => exact ih _

theorem run_snoc (r x : Nat) (a : List Nat) : run r (a ++ [x]) = runB (run r a) x := run_append r a [x]

theorem run_le (r : Nat) (bs : List Nat) (h : ∀ x ∈ bs, x < 256) : run r bs = steps (8 * bs.length) (r ^^^ le bs) := by
  induction bs generalizing r with
  | nil => simp [run, le, steps]
  | cons x xs ih =>
    rw [run, ih _ (fun y hy => h y (List.mem_cons_of_mem _ hy)), le, List.length_cons, show 8 * (xs.length + 1) = 8 + 8 * xs.length by omega, steps_add]
    congr 1
    rw [add_xor8 x _ (h x (List.mem_cons_self)), ← Nat.xor_assoc, steps_xor]
    have : steps 8 (256 * le xs) = le xs := steps_pow 8 (le xs)
    rw [this]; rfl

theorem runB_lt {r x : Nat} (hr : r < 4294967296) (hx : x < 256) : runB r x < 4294967296 := steps_lt _ (xor_lt32 hr (by omega))
theorem run_lt {r : Nat} (bs : List Nat) (hr : r < 4294967296) (h : ∀ x ∈ bs, x < 256) : run r bs < 4294967296 := by
  induction bs generalizing r with
  | nil => exact hr
  | cons x xs ih => exact ih (runB_lt hr (h x List.mem_cons_self)) (fun y hy => h y (List.mem_cons_of_mem _ hy))

/-- The checksum of bs behind the checksum c. -/
def upd (c : Nat) (bs : List Nat) : Nat := run (ones ^^^ c) bs ^^^ ones
def crc (bs : List Nat) : Nat := upd 0 bs

theorem upd_lt {c : Nat} (bs : List Nat) (hc : c < 4294967296) (h : ∀ x ∈ bs, x < 256) : upd c bs < 4294967296 :=
  xor_lt32 (run_lt bs (xor_lt32 (by decide) hc) h) (by decide)

theorem upd_append (c : Nat) (a b : List Nat) : upd c (a ++ b) = upd (upd c a) b := by
  unfold upd
  rw [run_append, Nat.xor_comm (run (ones ^^^ c) a) ones, ← Nat.xor_assoc, Nat.xor_self, Nat.zero_xor]

theorem upd_nil (c : Nat) : upd c [] = c := by
  unfold upd run
  rw [Nat.xor_comm ones c, Nat.xor_assoc, Nat.xor_self, Nat.xor_zero]

/-! ### The tables -/
def tab : Nat → Nat → Nat
  | 0, b => steps 8 b
  | k + 1, b => steps 8 (tab k b % 256) ^^^ tab k b / 256

theorem steps8_split (x : Nat) : steps 8 x = steps 8 (x % 256) ^^^ x / 256 := by
  have e : x = x % 256 + 256 * (x / 256) := by omega
  have e2 := add_xor8 (x % 256) (x / 256) (by omega)
  rw [← e] at e2
  have h : steps 8 x = steps 8 (x % 256 ^^^ 256 * (x / 256)) := congrArg _ e2
  rw [h, steps_xor]
  have : steps 8 (256 * (x / 256)) = x / 256 := steps_pow 8 _
  rw [this]

theorem tab_eq (k b : Nat) : tab k b = steps (8 + 8 * k) b := by
  induction k with
  | zero => rfl
  | succ k ih =>
    rw [tab, ← steps8_split, ih, ← steps_add]; congr 1

theorem tab_lt (k b : Nat) (h : b < 4294967296) : tab k b < 4294967296 := by rw [tab_eq]; exact steps_lt _ h

theorem xor_mod256 (x y : Nat) : (x ^^^ y) % 256 = x % 256 ^^^ y % 256 := Nat.xor_mod_two_pow (n := 8)
theorem xor_div256 (x y : Nat) : (x ^^^ y) / 256 = x / 256 ^^^ y / 256 := Nat.xor_div_two_pow (n := 8)

/-- One byte by the table. -/
theorem runB_tab (r x : Nat) (hx : x < 256) : tab 0 (r % 256 ^^^ x) ^^^ r / 256 = runB r x := by
  unfold runB
  rw [steps8_split (r ^^^ x), xor_mod256, xor_div256, show x % 256 = x by omega, show x / 256 = 0 by omega, Nat.xor_zero]; rfl

/-- The word that eight bytes make with the register, by its four bytes. -/
def headN (r x0 x1 x2 x3 : Nat) : Nat := r ^^^ (((x0 ||| x1 * 256) ||| x2 * 65536) ||| x3 * 16777216)

theorem or_add (n x y : Nat) (h : x < 2 ^ n) : x ||| y * 2 ^ n = x + 2 ^ n * y := by
  rw [Nat.mul_comm y, Nat.or_comm, ← Nat.two_pow_add_eq_or_of_lt h y]; omega

theorem headN_eq (r x0 x1 x2 x3 : Nat) (h0 : x0 < 256) (h1 : x1 < 256) (h2 : x2 < 256) : headN r x0 x1 x2 x3 = r ^^^ le [x0, x1, x2, x3] := by
  unfold headN
  rw [show x1 * 256 = x1 * 2 ^ 8 from rfl, or_add 8 x0 x1 h0, show x2 * 65536 = x2 * 2 ^ 16 from rfl, or_add 16 _ x2 (by omega), show x3 * 16777216 = x3 * 2 ^ 24 from rfl, or_add 24 _ x3 (by omega)]
  congr 1
  simp only [le]; omega

theorem headN_lt (r x0 x1 x2 x3 : Nat) (hr : r < 4294967296) (h0 : x0 < 256) (h1 : x1 < 256) (h2 : x2 < 256) (h3 : x3 < 256) : headN r x0 x1 x2 x3 < 4294967296 := by
  rw [headN_eq r x0 x1 x2 x3 h0 h1 h2]
  exact xor_lt32 hr (by simp only [le]; omega)

/-- A number below 2^32 split into its bytes, under any linear drive. -/
theorem steps_bytes (n h : Nat) :
    steps (32 + n) h = steps (32 + n) (h % 256) ^^^ (steps (24 + n) (h / 256 % 256) ^^^ (steps (16 + n) (h / 65536 % 256) ^^^ steps (8 + n) (h / 16777216))) := by
  have s1 : ∀ m x, steps (8 + m) x = steps (8 + m) (x % 256) ^^^ steps m (x / 256) := by
    intro m x
    rw [steps_add, steps8_split, steps_xor, ← steps_add]
  rw [show 32 + n = 8 + (24 + n) by omega, s1 (24 + n) h]
  congr 1
  rw [show 24 + n = 8 + (16 + n) by omega, s1 (16 + n) (h / 256)]
  congr 1
  rw [show h / 256 / 256 = h / 65536 by omega, show 16 + n = 8 + (8 + n) by omega, s1 (8 + n) (h / 65536)]
  congr 1
  rw [show h / 65536 / 256 = h / 16777216 by omega]

theorem run4 (r x0 x1 x2 x3 : Nat) (h0 : x0 < 256) (h1 : x1 < 256) (h2 : x2 < 256) (h3 : x3 < 256) : run r [x0, x1, x2, x3] = steps 32 (r ^^^ le [x0, x1, x2, x3]) :=
  run_le r _ (by simp; omega)

/-- Eight bytes at once by the eight tables. -/
theorem lanes (r x0 x1 x2 x3 x4 x5 x6 x7 : Nat) (hr : r < 4294967296) (h0 : x0 < 256) (h1 : x1 < 256) (h2 : x2 < 256) (h3 : x3 < 256) (h4 : x4 < 256) (h5 : x5 < 256) (h6 : x6 < 256) (h7 : x7 < 256) :
    tab 7 (headN r x0 x1 x2 x3 % 256) ^^^ tab 6 (headN r x0 x1 x2 x3 / 256 % 256) ^^^ tab 5 (headN r x0 x1 x2 x3 / 65536 % 256) ^^^ tab 4 (headN r x0 x1 x2 x3 / 16777216) ^^^ tab 3 x4 ^^^ tab 2 x5 ^^^ tab 1 x6 ^^^ tab 0 x7
      = run r [x0, x1, x2, x3, x4, x5, x6, x7] := by
  have hl := headN_lt r x0 x1 x2 x3 hr h0 h1 h2 h3
  have hB := steps_bytes 32 (headN r x0 x1 x2 x3)
  rw [show run r [x0, x1, x2, x3, x4, x5, x6, x7] = run (run r [x0, x1, x2, x3]) [x4, x5, x6, x7] from rfl, run4 r x0 x1 x2 x3 h0 h1 h2 h3, ← headN_eq r x0 x1 x2 x3 h0 h1 h2, run4 _ x4 x5 x6 x7 h4 h5 h6 h7]
  generalize headN r x0 x1 x2 x3 = h at *
  rw [steps_xor, ← steps_add, show (32 : Nat) + 32 = 64 from rfl] at *
  rw [hB]
  have e : steps 32 (le [x4, x5, x6, x7]) = steps 32 x4 ^^^ (steps 24 x5 ^^^ (steps 16 x6 ^^^ steps 8 x7)) := by
    have := steps_bytes 0 (le [x4, x5, x6, x7])
    have a0 : le [x4, x5, x6, x7] % 256 = x4 := by simp only [le]; omega
    have a1 : le [x4, x5, x6, x7] / 256 % 256 = x5 := by simp only [le]; omega
    have a2 : le [x4, x5, x6, x7] / 65536 % 256 = x6 := by simp only [le]; omega
    have a3 : le [x4, x5, x6, x7] / 16777216 = x7 := by simp only [le]; omega
    rw [a0, a1, a2, a3] at this
    simpa using this
  rw [e]
  simp only [tab_eq]
  simp only [Nat.reduceMul, Nat.reduceAdd, Nat.xor_assoc]

/-! ### Long division, bit by bit -/
def bitIn (r b i : Nat) : Nat := if b / 2 ^ i % 2 ≠ r % 2 then r / 2 ^^^ poly else r / 2
def bitsIn (b : Nat) : Nat → Nat → Nat
  | 0, r => r
  | i + 1, r => bitIn (bitsIn b i r) b i

theorem bitIn_eq (r b i : Nat) : bitIn r b i = cstep (r ^^^ (b / 2 ^ i % 2)) := by
  unfold bitIn cstep
  have hb : b / 2 ^ i % 2 = 0 ∨ b / 2 ^ i % 2 = 1 := by omega
  have hr : r % 2 = 0 ∨ r % 2 = 1 := by omega
  have d : (r ^^^ (b / 2 ^ i % 2)) / 2 = r / 2 := by rw [xor_div2, show b / 2 ^ i % 2 / 2 = 0 by omega, Nat.xor_zero]
  rw [d, xor_mod2]
  rcases hb with hb | hb <;> rcases hr with hr | hr <;> rw [hb, hr] <;> simp

theorem bitsIn_eq (b i r : Nat) : bitsIn b i r = steps i (r ^^^ b % 2 ^ i) := by
  induction i with
  | zero => simp [bitsIn, steps, Nat.mod_one]
  | succ i ih =>
    rw [bitsIn, bitIn_eq, ih, steps_succ]
    congr 1
    have e : b % 2 ^ (i + 1) = b % 2 ^ i ^^^ 2 ^ i * (b / 2 ^ i % 2) := by
      rw [← add_xor i _ _ (Nat.mod_lt _ (Nat.two_pow_pos i))]
      rw [Nat.pow_succ, Nat.mod_mul]
    rw [e, ← Nat.xor_assoc, steps_xor i (r ^^^ b % 2 ^ i), steps_pow]

theorem bitsIn_byte (b r : Nat) (hb : b < 256) : bitsIn b 8 r = runB r b := by
  rw [bitsIn_eq, show b % 2 ^ 8 = b by omega]; rfl

theorem bitsIn_lt (b i r : Nat) (hr : r < 4294967296) (hb : b < 256) : bitsIn b i r < 4294967296 := by
  rw [bitsIn_eq]
  exact steps_lt _ (xor_lt32 hr (Nat.lt_of_le_of_lt (Nat.mod_le _ _) (by omega)))

/-! ### Bursts -/
theorem le_append (a b : List Nat) : le (a ++ b) = le a + 256 ^ a.length * le b := by
  induction a with
  | nil => simp [le]
  | cons x a ih => simp only [List.cons_append, le, ih, List.length_cons, Nat.pow_succ]; rw [Nat.mul_add, Nat.mul_comm (256 ^ a.length) 256, Nat.mul_assoc]; omega

theorem le_lt (a : List Nat) (h : ∀ x ∈ a, x < 256) : le a < 256 ^ a.length := by
  induction a with
  | nil => simp [le]
  | cons x a ih =>
    have := ih (fun y hy => h y (List.mem_cons_of_mem _ hy))
    have hx := h x List.mem_cons_self
    simp only [le, List.length_cons, Nat.pow_succ]; omega

theorem le_inj (a b : List Nat) (hl : a.length = b.length) (ha : ∀ x ∈ a, x < 256) (hb : ∀ x ∈ b, x < 256) (h : le a = le b) : a = b := by
  induction a generalizing b with
  | nil => cases b with
    | nil => rfl
    | cons y b => simp at hl
  | cons x a ih => cases b with
    | nil => simp at hl
    | cons y b =>
      have hx := ha x List.mem_cons_self
      have hy := hb y List.mem_cons_self
      simp only [le] at h
      have e : x = y := by omega
      subst e
      rw [ih b (by simpa using hl) (fun z hz => ha z (List.mem_cons_of_mem _ hz)) (fun z hz => hb z (List.mem_cons_of_mem _ hz)) (by omega)]

theorem mul256_xor (a b : Nat) : 256 * (a ^^^ b) = 256 * a ^^^ 2 ^ 8 * b := by
  apply Nat.eq_of_testBit_eq
  intro i
  rw [show (256 : Nat) = 2 ^ 8 from rfl, Nat.testBit_xor, Nat.testBit_two_pow_mul, Nat.testBit_two_pow_mul, Nat.testBit_two_pow_mul, Nat.testBit_xor]
  cases decide (i ≥ 8) <;> simp

/-- Flipping bit j of the string is xor by 2^j of its number. -/
theorem le_flip (bs : List Nat) (h : ∀ x ∈ bs, x < 256) (j : Nat) (hj : j < 8 * bs.length) :
    le (bs.set (j / 8) (bs.getD (j / 8) 0 ^^^ 2 ^ (j % 8))) = le bs ^^^ 2 ^ j := by
  induction bs generalizing j with
  | nil => simp at hj
  | cons x xs ih =>
    have hx := h x List.mem_cons_self
    have hp : 2 ^ (j % 8) < 256 := by
      have : 2 ^ (j % 8) < 2 ^ 8 := Nat.pow_lt_pow_right (by decide) (Nat.mod_lt _ (by decide))
      simpa using this
    by_cases h8 : j < 8
    · have e0 : j / 8 = 0 := by omega
      have e1 : j % 8 = j := by omega
      rw [e1] at hp
      rw [e0, e1]
      simp only [List.set_cons_zero, List.getD_cons_zero, le]
      rw [add_xor8 _ _ (xor_lt8 hx hp), add_xor8 _ _ hx, Nat.xor_assoc, Nat.xor_comm (2 ^ j), ← Nat.xor_assoc]
    · obtain ⟨i, rfl⟩ : ∃ i, j = i + 8 := ⟨j - 8, by omega⟩
      have e0 : (i + 8) / 8 = i / 8 + 1 := by omega
      have e1 : (i + 8) % 8 = i % 8 := by omega
      rw [e0, e1]
      simp only [List.set_cons_succ, List.getD_cons_succ, le]
      have := ih (fun y hy => h y (List.mem_cons_of_mem _ hy)) i (by simp only [List.length_cons] at hj; omega)
      rw [this, add_xor8 _ _ hx, add_xor8 _ _ hx, Nat.xor_assoc]
      congr 1
      rw [Nat.pow_add, Nat.mul_comm (2 ^ i)]
      exact mul256_xor (le xs) (2 ^ i)

theorem crc_catches (r : Nat) (a b : List Nat) (hl : a.length = b.length) (ha : ∀ x ∈ a, x < 256) (hb : ∀ x ∈ b, x < 256) (s v : Nat) (hs : s < 8 * a.length) (hv : v < 4294967296)
    (hd : le b = le a ^^^ 2 ^ s * v) (hne : b ≠ a) : run r b ≠ run r a := by
  intro he
  rw [run_le r b hb, run_le r a ha, hl, hd, ← Nat.xor_assoc, steps_xor] at he
  have hz : steps (8 * b.length) (2 ^ s * v) = 0 := by
    have := congrArg (fun t => steps (8 * b.length) (r ^^^ le a) ^^^ t) he
    simpa [← Nat.xor_assoc] using this
  rw [show 8 * b.length = s + (8 * b.length - s) by omega, steps_add, steps_pow] at hz
  have := steps_inj0 _ hv hz
  subst this
  apply hne
  exact le_inj b a hl.symm hb ha (by simpa using hd)

/-! ### Combining -/
/-- The product of two residues by the schoolbook: the coefficient of x^i stands at bit 31 - i. -/
def mulTo (a b : Nat) : Nat → Nat
  | 0 => 0
  | i + 1 => mulTo a b i ^^^ (if a / 2 ^ (31 - i) % 2 = 1 then steps i b else 0)
def mulMod (a b : Nat) : Nat := mulTo a b 32

theorem mulTo_step (a b i : Nat) : mulTo a (cstep b) i = cstep (mulTo a b i) := by
  induction i with
  | zero => simp [mulTo, cstep_zero]
  | succ i ih =>
    rw [mulTo, mulTo, ih, cstep_xor]
    congr 1
    split
    · rw [← steps_succ]; rfl
    · rfl
theorem mulTo_steps (a b n i : Nat) : mulTo a (steps n b) i = steps n (mulTo a b i) := by
  induction n generalizing b with
  | zero => rfl
  | succ n ih => simp only [steps]; rw [ih, mulTo_step]

theorem steps_top (i : Nat) (h : i ≤ 31) : steps i (2 ^ 31) = 2 ^ (31 - i) := by
  have := steps_pow i (2 ^ (31 - i))
  rwa [← Nat.pow_add, show i + (31 - i) = 31 by omega] at this

theorem mulTo_one (a i : Nat) (h : i ≤ 32) : mulTo a (2 ^ 31) i = a % 2 ^ 32 / 2 ^ (32 - i) * 2 ^ (32 - i) := by
  induction i with
  | zero => simp [mulTo]
  | succ i ih =>
    rw [mulTo, ih (by omega), steps_top i (by omega)]
    have e : 32 - i = (31 - i) + 1 := by omega
    have e2 : 32 - (i + 1) = 31 - i := by omega
    rw [e2, e]
    generalize hk : 31 - i = k
    have hbit : a / 2 ^ k % 2 = a % 2 ^ 32 / 2 ^ k % 2 := by
      have h1 := Nat.testBit_mod_two_pow a 32 k
      have hk32 : k < 32 := by omega
      simp only [Nat.testBit_eq_decide_div_mod_eq] at h1
      simp only [hk32, decide_true, Bool.true_and, decide_eq_decide] at h1
      omega
    rw [hbit]
    generalize a % 2 ^ 32 = A
    have hq : A / 2 ^ (k + 1) = A / 2 ^ k / 2 := by rw [Nat.pow_succ, Nat.div_div_eq_div_mul]
    rw [hq]
    generalize A / 2 ^ k = q
    by_cases hb : q % 2 = 1
    · rw [if_pos hb]
      have hx := add_xor (k + 1) (2 ^ k) (q / 2) (Nat.pow_lt_pow_right (by decide) (by omega))
      rw [Nat.xor_comm, Nat.mul_comm (q / 2), ← hx, Nat.pow_succ]
      have : q = 2 * (q / 2) + 1 := by omega
      have h3 : q * 2 ^ k = (2 * (q / 2) + 1) * 2 ^ k := by rw [← this]
      rw [h3, Nat.add_mul, Nat.one_mul, Nat.mul_comm (2 ^ k) 2, Nat.mul_assoc, Nat.mul_assoc, Nat.mul_comm (q / 2) (2 ^ k)]; omega
    · rw [if_neg hb, Nat.xor_zero, Nat.pow_succ]
      have : q = q / 2 * 2 := by omega
      have h3 : q * 2 ^ k = q / 2 * 2 * 2 ^ k := by rw [← this]
      rw [h3, Nat.mul_assoc, Nat.mul_comm 2]

theorem mulMod_one (a : Nat) (h : a < 4294967296) : mulMod a (2 ^ 31) = a := by
  unfold mulMod
  rw [mulTo_one a 32 (Nat.le_refl _)]
  simp; omega

theorem mulMod_pow (a n : Nat) (h : a < 4294967296) : mulMod a (steps n (2 ^ 31)) = steps n a := by
  unfold mulMod
  rw [mulTo_steps]
  exact congrArg (steps n) (mulMod_one a h)

theorem mulTo_lt (a b i : Nat) (hb : b < 4294967296) : mulTo a b i < 4294967296 := by
  induction i with
  | zero => simp [mulTo]
  | succ i ih =>
    rw [mulTo]
    refine xor_lt32 ih ?_
    split
    · exact steps_lt _ hb
    · decide

theorem combine (a b : List Nat) (hb : ∀ x ∈ b, x < 256) : steps (8 * b.length) (crc a) ^^^ crc b = crc (a ++ b) := by
  unfold crc
  rw [upd_append]
  generalize upd 0 a = c
  unfold upd
  rw [run_le _ b hb, run_le _ b hb, Nat.xor_zero, ← Nat.xor_assoc, ← steps_xor]
  congr 2
  rw [← Nat.xor_assoc, Nat.xor_comm c ones]

end Go.Proofs.Qxb6500698aGreatDoor.Crc
