/-
  PLAIN MATHEMATICS: gmul MAKES THE BYTES A FIELD (the sum is exclusive or); sums of products.
-/
import Derived.Test.Qxb6500697aDoorKInv
namespace Go.Proofs.Qxb6500697aDoor

theorem bit_xor (b c i : Nat) : (b ^^^ c) / 2 ^ i % 2 = (b / 2 ^ i % 2 ^^^ c / 2 ^ i % 2) := by
  rw [Nat.xor_div_two_pow]
  exact Nat.xor_mod_two_pow (n := 1)
theorem mul_pow_xor (a b i : Nat) : (a ^^^ b) * 2 ^ i = a * 2 ^ i ^^^ b * 2 ^ i := by
  rw [← Nat.shiftLeft_eq, ← Nat.shiftLeft_eq, ← Nat.shiftLeft_eq, Nat.shiftLeft_xor_distrib]
theorem bit_cases (b i : Nat) : b / 2 ^ i % 2 = 0 ∨ b / 2 ^ i % 2 = 1 := by omega

theorem xor4 (a b c d : Nat) : (a ^^^ b) ^^^ (c ^^^ d) = (a ^^^ c) ^^^ (b ^^^ d) := by
  rw [Nat.xor_assoc, ← Nat.xor_assoc b, Nat.xor_comm b c, Nat.xor_assoc c, ← Nat.xor_assoc]

theorem gacc_xor_left (a a' b i : Nat) : gacc (a ^^^ a') b i = gacc a b i ^^^ gacc a' b i := by
  induction i with
  | zero => simp [gacc]
  | succ i ih =>
    simp only [gacc]
    split
    · rw [ih, mul_pow_xor, xor4]
    · exact ih

theorem gacc_xor_right (a b b' i : Nat) : gacc a (b ^^^ b') i = gacc a b i ^^^ gacc a b' i := by
  induction i with
  | zero => simp [gacc]
  | succ i ih =>
    simp only [gacc, bit_xor]
    rcases bit_cases b i with h | h <;> rcases bit_cases b' i with h' | h' <;> simp only [h, h'] <;> rw [ih]
    · rfl
    · simp [Nat.xor_assoc]
    · simp only [Nat.reduceXor, if_true]
      rw [if_neg (by decide), Nat.xor_assoc, Nat.xor_comm (gacc a b' i), ← Nat.xor_assoc]
    · simp only [Nat.reduceXor, if_true]
      rw [if_neg (by decide), xor4, Nat.xor_self, Nat.xor_zero]

theorem gred_xor (p q j : Nat) : gred (p ^^^ q) j = gred p j ^^^ gred q j := by
  induction j with
  | zero => rfl
  | succ j ih =>
    simp only [gred]
    rw [ih, bit_xor]
    rcases bit_cases (gred p j) (14 - j) with h | h <;> rcases bit_cases (gred q j) (14 - j) with h' | h' <;> simp only [h, h']
    · rfl
    · simp [Nat.xor_assoc]
    · simp only [Nat.reduceXor, if_true]
      rw [if_neg (by decide), Nat.xor_assoc, Nat.xor_comm (gred q j), ← Nat.xor_assoc]
    · simp only [Nat.reduceXor, if_true]
      rw [if_neg (by decide), xor4, Nat.xor_self, Nat.xor_zero]

theorem gmul_xor_left (a a' b : Nat) : gmul (a ^^^ a') b = gmul a b ^^^ gmul a' b := by
  unfold gmul
  rw [gacc_xor_left, gred_xor]
  exact Nat.xor_mod_two_pow (n := 8)
theorem gmul_xor_right (a b b' : Nat) : gmul a (b ^^^ b') = gmul a b ^^^ gmul a b' := by
  unfold gmul
  rw [gacc_xor_right, gred_xor]
  exact Nat.xor_mod_two_pow (n := 8)

theorem xor_top (n x : Nat) (h : x < 2 ^ n) : 2 ^ n + x = 2 ^ n ^^^ x := by
  have h1 := Nat.two_pow_add_eq_or_of_lt h 1
  rw [Nat.mul_one] at h1
  rw [h1]
  apply Nat.eq_of_testBit_eq
  intro i
  rw [Nat.testBit_or, Nat.testBit_xor, Nat.testBit_two_pow]
  by_cases e : n = i
  · subst e
    rw [Nat.testBit_lt_two_pow h]; simp
  · simp [e]

/-- Two linear functions that agree at the eight powers of two agree at every byte. -/
theorem lin_ext (f g : Nat → Nat) (hf : ∀ a b, f (a ^^^ b) = f a ^^^ f b) (hg : ∀ a b, g (a ^^^ b) = g a ^^^ g b) (h : ∀ i, i < 8 → f (2 ^ i) = g (2 ^ i)) : ∀ a, a < 256 → f a = g a := by
  have z : ∀ q : Nat → Nat, (∀ a b, q (a ^^^ b) = q a ^^^ q b) → q 0 = 0 := by
    intro q hq
    have := hq 0 0
    simpa using this
  have key : ∀ n, n ≤ 8 → ∀ a, a < 2 ^ n → f a = g a := by
    intro n
    induction n with
    | zero =>
      intro _ a ha
      have : a = 0 := by simpa using ha
      subst this
      rw [z f hf, z g hg]
    | succ n ih =>
      intro hn a ha
      by_cases h2 : a < 2 ^ n
      · exact ih (by omega) a h2
      · obtain ⟨x, rfl⟩ : ∃ x, a = 2 ^ n + x := ⟨a - 2 ^ n, by omega⟩
        have hx : x < 2 ^ n := by rw [Nat.pow_succ] at ha; omega
        rw [xor_top n x hx, hf, hg, h n (by omega), ih (by omega) x hx]
  exact key 8 (Nat.le_refl _)

theorem pow_lt8 {i : Nat} (h : i < 8) : 2 ^ i < 256 := by
  have : 2 ^ i < 2 ^ 8 := Nat.pow_lt_pow_right (by decide) h
  simpa using this

theorem comm_basis : ∀ i, i < 8 → ∀ j, j < 8 → gmul (2 ^ i) (2 ^ j) = gmul (2 ^ j) (2 ^ i) := by decide +kernel
theorem assoc_basis : ∀ i, i < 8 → ∀ j, j < 8 → ∀ k, k < 8 → gmul (gmul (2 ^ i) (2 ^ j)) (2 ^ k) = gmul (2 ^ i) (gmul (2 ^ j) (2 ^ k)) := by decide +kernel
theorem one_basis : ∀ i, i < 8 → gmul 1 (2 ^ i) = 2 ^ i := by decide +kernel

theorem gmul_comm {a b : Nat} (ha : a < 256) (hb : b < 256) : gmul a b = gmul b a :=
  lin_ext (fun a => gmul a b) (fun a => gmul b a) (fun x y => gmul_xor_left x y b) (fun x y => gmul_xor_right b x y)
    (fun i hi => lin_ext (fun b => gmul (2 ^ i) b) (fun b => gmul b (2 ^ i)) (fun x y => gmul_xor_right _ x y) (fun x y => gmul_xor_left x y _) (fun j hj => comm_basis i hi j hj) b hb) a ha

theorem gmul_assoc {a b c : Nat} (ha : a < 256) (hb : b < 256) (hc : c < 256) : gmul (gmul a b) c = gmul a (gmul b c) :=
  lin_ext (fun a => gmul (gmul a b) c) (fun a => gmul a (gmul b c)) (fun x y => by rw [gmul_xor_left, gmul_xor_left]) (fun x y => gmul_xor_left x y _)
    (fun i hi => lin_ext (fun b => gmul (gmul (2 ^ i) b) c) (fun b => gmul (2 ^ i) (gmul b c)) (fun x y => by rw [gmul_xor_right, gmul_xor_left]) (fun x y => by rw [gmul_xor_left, gmul_xor_right])
      (fun j hj => lin_ext (fun c => gmul (gmul (2 ^ i) (2 ^ j)) c) (fun c => gmul (2 ^ i) (gmul (2 ^ j) c)) (fun x y => gmul_xor_right _ x y) (fun x y => by rw [gmul_xor_right, gmul_xor_right]) (fun k hk => assoc_basis i hi j hj k hk) c hc) b hb) a ha

theorem gmul_one_left {a : Nat} (ha : a < 256) : gmul 1 a = a :=
  lin_ext (fun a => gmul 1 a) (fun a => a) (fun x y => gmul_xor_right 1 x y) (fun _ _ => rfl) one_basis a ha
theorem gmul_one {a : Nat} (ha : a < 256) : gmul a 1 = a := by rw [gmul_comm ha (by decide), gmul_one_left ha]
theorem gmul_zero_right (a : Nat) : gmul a 0 = 0 := by
  have := gmul_xor_right a 0 0
  simpa using this

/-- a to the power 254. -/
def gp254 (a : Nat) : Nat :=
  let p2 := gmul a a
  let p4 := gmul p2 p2
  let p8 := gmul p4 p4
  let p16 := gmul p8 p8
  let p32 := gmul p16 p16
  let p64 := gmul p32 p32
  let p128 := gmul p64 p64
  gmul (gmul (gmul (gmul (gmul (gmul p2 p4) p8) p16) p32) p64) p128
theorem gp254_lt (a : Nat) : gp254 a < 256 := gmul_lt _ _
theorem inv_table : ∀ a, a < 256 → a = 0 ∨ gmul a (gp254 a) = 1 := by decide +kernel

theorem ginvN_find (a b f : Nat) (h : ∃ c, b ≤ c ∧ c < b + f ∧ gmul a c = 1) : gmul a (ginvN a b f) = 1 := by
  induction f generalizing b with
  | zero => obtain ⟨c, h1, h2, _⟩ := h; omega
  | succ f ih =>
    unfold ginvN
    split
    · assumption
    · rename_i hne
      obtain ⟨c, h1, h2, h3⟩ := h
      refine ih (b + 1) ⟨c, ?_, by omega, h3⟩
      rcases Nat.lt_or_ge b c with h4 | h4
      · omega
      · have : c = b := by omega
        subst this; exact absurd h3 hne

theorem gmul_ginv {a : Nat} (ha : a < 256) (h0 : a ≠ 0) : gmul a (ginv a) = 1 := by
  refine ginvN_find a 1 255 ⟨gp254 a, ?_, gp254_lt a, ?_⟩
  · rcases Nat.eq_zero_or_pos (gp254 a) with h | h
    · rcases inv_table a ha with h2 | h2
      · exact absurd h2 h0
      · rw [h, gmul_zero_right] at h2; cases h2
    · exact h
  · rcases inv_table a ha with h2 | h2
    · exact absurd h2 h0
    · exact h2

theorem ginv_ne {a : Nat} (ha : a < 256) (h0 : a ≠ 0) : ginv a ≠ 0 := by
  intro h
  have := gmul_ginv ha h0
  rw [h, gmul_zero_right] at this
  cases this

theorem gmul_eq_zero {a b : Nat} (ha : a < 256) (hb : b < 256) (h : gmul a b = 0) : a = 0 ∨ b = 0 := by
  by_cases h0 : a = 0
  · exact .inl h0
  · right
    have h1 := gmul_assoc (ginv_lt a) ha hb
    rw [gmul_comm (ginv_lt a) ha, gmul_ginv ha h0, gmul_one_left hb, h, gmul_zero_right] at h1
    exact h1

/-! ### Sums of products -/
theorem gdot_xor_left (u u' v : Nat → Nat) (k : Nat) : gdot (fun t => u t ^^^ u' t) v k = gdot u v k ^^^ gdot u' v k := by
  induction k with
  | zero => simp [gdot]
  | succ k ih => simp only [gdot, ih, gmul_xor_left]; rw [xor4]
theorem gdot_xor_right (u v v' : Nat → Nat) (k : Nat) : gdot u (fun t => v t ^^^ v' t) k = gdot u v k ^^^ gdot u v' k := by
  induction k with
  | zero => simp [gdot]
  | succ k ih => simp only [gdot, ih, gmul_xor_right]; rw [xor4]
theorem gdot_scale_left (c : Nat) (u v : Nat → Nat) (k : Nat) (hc : c < 256) (hu : ∀ t, t < k → u t < 256) (hv : ∀ t, t < k → v t < 256) : gdot (fun t => gmul c (u t)) v k = gmul c (gdot u v k) := by
  induction k with
  | zero => rw [gdot, gdot, gmul_zero_right]
  | succ k ih =>
    simp only [gdot]
    rw [ih (fun t ht => hu t (by omega)) (fun t ht => hv t (by omega)), gmul_xor_right, gmul_assoc hc (hu k (by omega)) (hv k (by omega))]
theorem gdot_scale_right (c : Nat) (u v : Nat → Nat) (k : Nat) (hc : c < 256) (hu : ∀ t, t < k → u t < 256) (hv : ∀ t, t < k → v t < 256) : gdot u (fun t => gmul c (v t)) k = gmul c (gdot u v k) := by
  induction k with
  | zero => rw [gdot, gdot, gmul_zero_right]
  | succ k ih =>
    simp only [gdot]
    rw [ih (fun t ht => hu t (by omega)) (fun t ht => hv t (by omega)), gmul_xor_right, ← gmul_assoc (hu k (by omega)) hc (hv k (by omega)), gmul_comm (hu k (by omega)) hc, gmul_assoc hc (hu k (by omega)) (hv k (by omega))]
theorem gdot_zero_left (u v : Nat → Nat) (k : Nat) (h : ∀ t, t < k → u t = 0) : gdot u v k = 0 := by
  induction k with
  | zero => rfl
  | succ k ih => rw [gdot, ih (fun t ht => h t (by omega)), h k (by omega), gmul_zero]; rfl
theorem gdot_zero_right (u v : Nat → Nat) (k : Nat) (h : ∀ t, t < k → v t = 0) : gdot u v k = 0 := by
  induction k with
  | zero => rfl
  | succ k ih => rw [gdot, ih (fun t ht => h t (by omega)), h k (by omega), gmul_zero_right]; rfl
theorem gdot_comm (u v : Nat → Nat) (k : Nat) (hu : ∀ t, t < k → u t < 256) (hv : ∀ t, t < k → v t < 256) : gdot u v k = gdot v u k := by
  induction k with
  | zero => rfl
  | succ k ih => rw [gdot, gdot, ih (fun t ht => hu t (by omega)) (fun t ht => hv t (by omega)), gmul_comm (hu k (by omega)) (hv k (by omega))]
/-- One place alone. -/
theorem gdot_unit (r : Nat) (v : Nat → Nat) (k : Nat) (hr : r < k) (hv : v r < 256) : gdot (gone r) v k = v r := by
  induction k with
  | zero => omega
  | succ k ih =>
    rw [gdot]
    by_cases e : r = k
    · subst e
      rw [gdot_zero_left _ _ _ (fun t ht => by unfold gone; rw [if_neg (by omega)])]
      unfold gone
      rw [if_pos rfl, gmul_one_left hv, Nat.zero_xor]
    · rw [ih (by omega)]
      unfold gone
      rw [if_neg e, gmul_zero, Nat.xor_zero]
/-- The order of two sums. -/
theorem gdot_swap (u : Nat → Nat) (M : Nat → Nat → Nat) (x : Nat → Nat) (n k : Nat) (hu : ∀ t, t < n → u t < 256) (hM : ∀ t, t < n → ∀ c, c < k → M t c < 256) (hx : ∀ c, c < k → x c < 256) :
    gdot u (fun t => gdot (M t) x k) n = gdot (fun c => gdot u (fun t => M t c) n) x k := by
  induction n with
  | zero => rw [gdot]; exact (gdot_zero_left _ _ _ (fun _ _ => rfl)).symm
  | succ n ih =>
    simp only [gdot]
    rw [ih (fun t ht => hu t (by omega)) (fun t ht => hM t (by omega)), gdot_xor_left, gdot_scale_left (u n) (M n) x k (hu n (by omega)) (hM n (by omega)) hx]
end Go.Proofs.Qxb6500697aDoor
