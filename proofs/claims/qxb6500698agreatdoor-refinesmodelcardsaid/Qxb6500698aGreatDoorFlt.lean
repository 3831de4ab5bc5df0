/-
  PLAIN MATHEMATICS OF FLETCHER-32, no Go in sight.
-/
namespace Go.Proofs.Qxb6500698aGreatDoor.Flt

def M : Nat := 65535

/-- One word into two reduced sums. -/
def word1 (s1 w : Nat) : Nat := (s1 + w) % 65535
def word2 (s1 s2 w : Nat) : Nat := (s2 + (s1 + w) % 65535) % 65535

/-- The definition: both sums reduced at each word; an odd last byte counts as a word. -/
def sums (s1 s2 : Nat) : List Nat → Nat × Nat
  | [] => (s1, s2)
  | [x] => (word1 s1 x, word2 s1 s2 x)
  | x :: y :: r => sums (word1 s1 (x + 256 * y)) (word2 s1 s2 (x + 256 * y)) r

def fl (bs : List Nat) : Nat := (sums 0 0 bs).2 * 65536 + (sums 0 0 bs).1

theorem two_induct {P : List Nat → Prop} (h0 : P []) (h1 : ∀ x, P [x]) (h2 : ∀ x y r, P r → P (x :: y :: r)) : ∀ l, P l
  | [] => h0
  | [x] => h1 x
  | x :: y :: r => h2 x y r (two_induct h0 h1 h2 r)

theorem sums_append (a b : List Nat) (he : a.length % 2 = 0) (s1 s2 : Nat) : sums s1 s2 (a ++ b) = sums (sums s1 s2 a).1 (sums s1 s2 a).2 b := by
  revert s1 s2
  induction a using two_induct with
  | h0 => intro s1 s2; rfl
  | h1 x => simp at he
  | h2 x y r ih => intro s1 s2; simp only [List.cons_append, sums]; exact ih (by simp at he; omega) _ _

theorem sums_pair (a : List Nat) (he : a.length % 2 = 0) (x y s1 s2 : Nat) : sums s1 s2 (a ++ [x, y]) = (word1 (sums s1 s2 a).1 (x + 256 * y), word2 (sums s1 s2 a).1 (sums s1 s2 a).2 (x + 256 * y)) := by
  rw [sums_append a [x, y] he]; rfl
theorem sums_last (a : List Nat) (he : a.length % 2 = 0) (x s1 s2 : Nat) : sums s1 s2 (a ++ [x]) = (word1 (sums s1 s2 a).1 x, word2 (sums s1 s2 a).1 (sums s1 s2 a).2 x) := by
  rw [sums_append a [x] he]; rfl

theorem sums_lt (bs : List Nat) (s1 s2 : Nat) (h1 : s1 < 65535) (h2 : s2 < 65535) : (sums s1 s2 bs).1 < 65535 ∧ (sums s1 s2 bs).2 < 65535 := by
  revert s1 s2
  induction bs using two_induct with
  | h0 => intro s1 s2 h1 h2; exact ⟨h1, h2⟩
  | h1 x => intro s1 s2 h1 h2; exact ⟨Nat.mod_lt _ (by decide), Nat.mod_lt _ (by decide)⟩
  | h2 x y r ih => intro s1 s2 h1 h2; exact ih _ _ (Nat.mod_lt _ (by decide)) (Nat.mod_lt _ (by decide))

theorem fl_lt (bs : List Nat) : fl bs < 4294967296 := by
  have := sums_lt bs 0 0 (by decide) (by decide)
  unfold fl; omega

/-- 0 + 1 + .. + i. -/
def tri : Nat → Nat
  | 0 => 0
  | i + 1 => tri i + (i + 1)
theorem tri_le (i j : Nat) (h : i ≤ j) : tri i ≤ tri j := by
  induction j with
  | zero => have : i = 0 := by omega
            subst this; exact Nat.le_refl _
  | succ j ih =>
    by_cases e : i = j + 1
    · subst e; exact Nat.le_refl _
    · have := ih (by omega); simp only [tri]; omega
theorem tri_360 : tri 360 = 64980 := by decide +kernel

/-- Two unreduced sums that stand for the reduced ones after i words of a block. -/
structure Block (s1 s2 : Nat) (bs : List Nat) (i u1 u2 : Nat) : Prop where
  m1 : u1 % 65535 = (sums s1 s2 (bs.take (2 * i))).1
  m2 : u2 % 65535 = (sums s1 s2 (bs.take (2 * i))).2
  b1 : u1 ≤ 65534 + 65535 * i
  b2 : u2 ≤ 65534 + 65534 * i + 65535 * tri i

theorem take_pair (bs : List Nat) (i : Nat) (h : 2 * i + 1 < bs.length) : bs.take (2 * (i + 1)) = bs.take (2 * i) ++ [bs.getD (2 * i) 0, bs.getD (2 * i + 1) 0] := by
  rw [show 2 * (i + 1) = 2 * i + 1 + 1 by omega, List.take_succ_eq_append_getElem (by omega), List.take_succ_eq_append_getElem (by omega), List.append_assoc]
  congr 1
  simp [List.getD_eq_getElem?_getD, h, show 2 * i < bs.length by omega]

theorem Block.start {s1 s2 : Nat} (bs : List Nat) (h1 : s1 < 65535) (h2 : s2 < 65535) : Block s1 s2 bs 0 s1 s2 :=
  ⟨by simp [sums, Nat.mod_eq_of_lt h1], by simp [sums, Nat.mod_eq_of_lt h2], by omega, by simp [tri]; omega⟩

theorem Block.step {s1 s2 : Nat} {bs : List Nat} {i u1 u2 : Nat} (h : Block s1 s2 bs i u1 u2) (hi : 2 * i + 1 < bs.length) (hl : bs.length ≤ 720) (hx : bs.getD (2 * i) 0 < 256) (hy : bs.getD (2 * i + 1) 0 < 256) :
    Block s1 s2 bs (i + 1) (u1 + (bs.getD (2 * i) 0 + 256 * bs.getD (2 * i + 1) 0)) (u2 + (u1 + (bs.getD (2 * i) 0 + 256 * bs.getD (2 * i + 1) 0))) ∧
      u2 + (u1 + (bs.getD (2 * i) 0 + 256 * bs.getD (2 * i + 1) 0)) < 4294967296 := by
  have ht : tri (i + 1) ≤ 64980 := by rw [← tri_360]; exact tri_le _ _ (by omega)
  have hl2 : (bs.take (2 * i)).length % 2 = 0 := by simp; omega
  have h1 := h.b1
  have h2 := h.b2
  have ht' : tri (i + 1) = tri i + (i + 1) := rfl
  have hb2 : u2 + (u1 + (bs.getD (2 * i) 0 + 256 * bs.getD (2 * i + 1) 0)) ≤ 65534 + 65534 * (i + 1) + 65535 * tri (i + 1) := by omega
  refine ⟨⟨?_, ?_, by omega, hb2⟩, by omega⟩
  · rw [take_pair bs i hi, sums_pair _ hl2]
    show _ = word1 _ _
    unfold word1
    rw [← h.m1]; omega
  · rw [take_pair bs i hi, sums_pair _ hl2]
    show _ = word2 _ _ _
    unfold word2
    rw [← h.m1, ← h.m2]; omega

/-! ### Small changes -/
/-- The two sums, not reduced, as integers; n words are still to come counting from here. -/
def c (k : Nat) : Int := if k % 2 = 0 then 1 else 256
def t1 : List Nat → Int
  | [] => 0
  | [x] => (x : Int)
  | x :: y :: r => (x : Int) + 256 * (y : Int) + t1 r
def words (bs : List Nat) : Nat := (bs.length + 1) / 2
def t2 : List Nat → Int
  | [] => 0
  | [x] => (x : Int)
  | x :: y :: r => ((x : Int) + 256 * (y : Int)) * (words (x :: y :: r) : Nat) + t2 r

theorem words_cons2 (x y : Nat) (r : List Nat) : words (x :: y :: r) = words r + 1 := by unfold words; simp; omega

theorem words_set (bs : List Nat) (i x : Nat) : words (bs.set i x) = words bs := by unfold words; simp

theorem sums_t (bs : List Nat) (s1 s2 : Nat) : (((sums s1 s2 bs).1 : Int) % 65535 = ((s1 : Int) + t1 bs) % 65535) ∧ (((sums s1 s2 bs).2 : Int) % 65535 = ((s2 : Int) + (words bs : Nat) * (s1 : Int) + t2 bs) % 65535) := by
  revert s1 s2
  induction bs using two_induct with
  | h0 => intro s1 s2; simp [sums, t1, t2, words]
  | h1 x =>
    intro s1 s2
    simp only [sums, t1, t2, words, word1, word2, List.length_cons, List.length_nil]
    omega
  | h2 x y r ih =>
    intro s1 s2
    obtain ⟨i1, i2⟩ := ih (word1 s1 (x + 256 * y)) (word2 s1 s2 (x + 256 * y))
    simp only [sums, t1, t2]
    rw [i1, i2, words_cons2]
    have e1 : ((word1 s1 (x + 256 * y) : Nat) : Int) = ((s1 : Int) + (x + 256 * y)) % 65535 := by unfold word1; omega
    have e2 : ((word2 s1 s2 (x + 256 * y) : Nat) : Int) = ((s2 : Int) + ((s1 : Int) + (x + 256 * y)) % 65535) % 65535 := by unfold word2; omega
    rw [e1, e2]
    refine ⟨by omega, ?_⟩
    generalize (words r) = k
    generalize t2 r = T
    generalize ((x : Int) + 256 * (y : Int)) = W
    generalize (s1 : Int) = a
    generalize (s2 : Int) = b
    have hd : (a + W) % 65535 = (a + W) - 65535 * ((a + W) / 65535) := by omega
    rw [hd]
    generalize (a + W) / 65535 = q
    have e3 : ((k : Nat) : Int) * (a + W - 65535 * q) = (k : Nat) * a + (k : Nat) * W - 65535 * ((k : Nat) * q) := by
      rw [Int.mul_sub, Int.mul_add, ← Int.mul_assoc, Int.mul_comm (k : Int) 65535, Int.mul_assoc]
    have e4 : ((k + 1 : Nat) : Int) * a = (k : Nat) * a + a := by rw [Int.natCast_add, Int.add_mul]; simp
    have e5 : W * ((k + 1 : Nat) : Int) = (k : Nat) * W + W := by rw [Int.natCast_add, Int.mul_add, Int.mul_comm]; simp
    rw [e3, e4, e5]
    generalize ((k : Nat) : Int) * q = kq
    generalize ((k : Nat) : Int) * a = ka
    generalize ((k : Nat) : Int) * W = kW
    omega

theorem fl_eq_t {a b : List Nat} (h : fl a = fl b) (hl : a.length = b.length) : (t1 a - t1 b) % 65535 = 0 ∧ (t2 a - t2 b) % 65535 = 0 := by
  have ha := sums_lt a 0 0 (by decide) (by decide)
  have hb := sums_lt b 0 0 (by decide) (by decide)
  unfold fl at h
  have h1 : (sums 0 0 a).1 = (sums 0 0 b).1 := by omega
  have h2 : (sums 0 0 a).2 = (sums 0 0 b).2 := by omega
  have ta := sums_t a 0 0
  have tb := sums_t b 0 0
  rw [h1, h2] at ta
  have hw : words a = words b := by unfold words; rw [hl]
  simp at ta tb
  omega

/-- One byte turned. -/
theorem t1_set (bs : List Nat) (i x : Nat) (h : i < bs.length) : t1 (bs.set i x) = t1 bs + ((x : Int) - (bs.getD i 0 : Nat)) * c i := by
  revert i
  induction bs using two_induct with
  | h0 => intro i h; simp at h
  | h1 y => intro i h; have : i = 0 := by simpa using h
            subst this; simp [t1, c]; omega
  | h2 y z r ih =>
    intro i h
    match i, h with
    | 0, _ => simp only [List.set_cons_zero, t1, List.getD_cons_zero, c]; simp; omega
    | 1, _ => simp only [List.set_cons_succ, List.set_cons_zero, t1, List.getD_cons_succ, List.getD_cons_zero, c]; simp; omega
    | i + 2, h =>
      simp only [List.set_cons_succ, t1, List.getD_cons_succ]
      rw [ih i (by simpa using h)]
      have : c (i + 2) = c i := by unfold c; rw [show (i + 2) % 2 = i % 2 by omega]
      rw [this]; omega

theorem t2_set (bs : List Nat) (i x : Nat) (h : i < bs.length) : t2 (bs.set i x) = t2 bs + ((x : Int) - (bs.getD i 0 : Nat)) * c i * ((words bs : Nat) - (i / 2 : Nat)) := by
  revert i
  induction bs using two_induct with
  | h0 => intro i h; simp at h
  | h1 y => intro i h; have : i = 0 := by simpa using h
            subst this; simp [t2, c, words]; omega
  | h2 y z r ih =>
    intro i h
    match i, h with
    | 0, _ =>
      simp only [List.set_cons_zero, t2, List.getD_cons_zero, c, words_cons2]
      simp only [if_true, Int.mul_one, Nat.zero_div, Int.natCast_zero, Int.sub_zero]
      generalize ((words r + 1 : Nat) : Int) = K
      have e : ((x : Int) + 256 * z) * K = ((y : Int) + 256 * z) * K + ((x : Int) - y) * K := by rw [← Int.add_mul]; congr 1; omega
      rw [e]; omega
    | 1, _ =>
      simp only [List.set_cons_succ, List.set_cons_zero, t2, List.getD_cons_succ, List.getD_cons_zero, c, words_cons2]
      simp only [show ¬ (1 : Nat) % 2 = 0 by decide, if_false, show (1 : Nat) / 2 = 0 by decide, Int.natCast_zero, Int.sub_zero]
      generalize ((words r + 1 : Nat) : Int) = K
      have e : ((y : Int) + 256 * x) * K = ((y : Int) + 256 * z) * K + ((x : Int) - z) * 256 * K := by rw [← Int.add_mul]; congr 1; omega
      rw [e]; omega
    | i + 2, h =>
      simp only [List.set_cons_succ, t2, List.getD_cons_succ, words_cons2, words_set]
      rw [ih i (by simpa using h)]
      have hc : c (i + 2) = c i := by unfold c; rw [show (i + 2) % 2 = i % 2 by omega]
      rw [hc, show (i + 2) / 2 = i / 2 + 1 by omega]
      have e : ((words r : Nat) : Int) - ((i / 2 : Nat) : Int) = ((words r + 1 : Nat) : Int) - ((i / 2 + 1 : Nat) : Int) := by omega
      rw [e]; omega

theorem c_cases (i : Nat) : (i % 2 = 0 ∧ c i = 1) ∨ (i % 2 = 1 ∧ c i = 256) := by
  unfold c
  by_cases h : i % 2 = 0
  · exact .inl ⟨h, if_pos h⟩
  · exact .inr ⟨by omega, if_neg h⟩

theorem small_prod {e d : Int} (he : -255 ≤ e ∧ e ≤ 255) (hd : -256 ≤ d ∧ d ≤ 256) (h : (e * d) % 65535 = 0) : e = 0 ∨ d = 0 := by
  have hb : (e * d).natAbs ≤ 255 * 256 := by
    rw [Int.natAbs_mul]
    exact Nat.mul_le_mul (by omega) (by omega)
  have h0 : e * d = 0 := by
    generalize e * d = p at *
    omega
  exact Int.mul_eq_zero.1 h0

theorem same_word {e f : Int} (he : -255 ≤ e ∧ e ≤ 255) (hf : -255 ≤ f ∧ f ≤ 255) (h : (e + 256 * f) % 65535 = 0) : (e = 0 ∧ f = 0) ∨ (e = 255 ∧ f = 255) ∨ (e = -255 ∧ f = -255) := by
  obtain ⟨q, hq⟩ := Int.dvd_of_emod_eq_zero h
  have h3 : q = -1 ∨ q = 0 ∨ q = 1 := by omega
  rcases h3 with rfl | rfl | rfl <;> omega

/-- A change of one byte. -/
theorem one_byte {a : List Nat} {i x : Nat} (hi : i < a.length) (ha : a.getD i 0 < 256) (hx : x < 256) (h : fl (a.set i x) = fl a) : x = a.getD i 0 := by
  have ht := (fl_eq_t h (by simp)).1
  rw [t1_set a i x hi] at ht
  rcases c_cases i with ⟨_, hc⟩ | ⟨_, hc⟩ <;> rw [hc] at ht <;> omega

/-- A change of two bytes: nothing at all, or the blind spot. -/
theorem two_bytes {a : List Nat} {i j x y : Nat} (hij : i ≠ j) (hi : i < a.length) (hj : j < a.length) (hl : a.length ≤ 514) (hai : a.getD i 0 < 256) (haj : a.getD j 0 < 256) (hx : x < 256) (hy : y < 256)
    (h : fl ((a.set i x).set j y) = fl a) : (x = a.getD i 0 ∧ y = a.getD j 0) ∨ (i / 2 = j / 2 ∧ ((a.getD i 0 = 0 ∧ a.getD j 0 = 0 ∧ x = 255 ∧ y = 255) ∨ (a.getD i 0 = 255 ∧ a.getD j 0 = 255 ∧ x = 0 ∧ y = 0))) := by
  obtain ⟨h1, h2⟩ := fl_eq_t h (by simp)
  have hg : (a.set i x).getD j 0 = a.getD j 0 := by simp [List.getD_eq_getElem?_getD, hij]
  have hw : words (a.set i x) = words a := by unfold words; simp
  rw [t1_set _ j y (by simpa using hj), t1_set a i x hi, hg] at h1
  rw [t2_set _ j y (by simpa using hj), t2_set a i x hi, hg, hw] at h2
  have hwl : words a ≤ 257 := by unfold words; omega
  have hki : i / 2 < words a := by unfold words; omega
  have hkj : j / 2 < words a := by unfold words; omega
  generalize hA : a.getD i 0 = A at *
  generalize hB : a.getD j 0 = B at *
  by_cases hs : i / 2 = j / 2
  · rcases c_cases i with ⟨pi, ci⟩ | ⟨pi, ci⟩ <;> rcases c_cases j with ⟨pj, cj⟩ | ⟨pj, cj⟩
    · omega
    · rw [ci, cj] at h1
      have h3 := same_word (e := (x : Int) - A) (f := (y : Int) - B) (by omega) (by omega) (by omega)
      clear h1 h2 h hA hB
      rcases h3 with ⟨p, q⟩ | ⟨p, q⟩ | ⟨p, q⟩
      · exact .inl ⟨by omega, by omega⟩
      · exact .inr ⟨hs, .inl ⟨by omega, by omega, by omega, by omega⟩⟩
      · exact .inr ⟨hs, .inr ⟨by omega, by omega, by omega, by omega⟩⟩
    · rw [ci, cj] at h1
      have h3 := same_word (e := (y : Int) - B) (f := (x : Int) - A) (by omega) (by omega) (by omega)
      clear h1 h2 h hA hB
      rcases h3 with ⟨p, q⟩ | ⟨p, q⟩ | ⟨p, q⟩
      · exact .inl ⟨by omega, by omega⟩
      · exact .inr ⟨hs, .inl ⟨by omega, by omega, by omega, by omega⟩⟩
      · exact .inr ⟨hs, .inr ⟨by omega, by omega, by omega, by omega⟩⟩
    · omega
  · left
    generalize words a = K at *
    have key : ∀ (e f ce cf k l : Int), -255 ≤ e ∧ e ≤ 255 → -255 ≤ f ∧ f ≤ 255 → (ce = 1 ∨ ce = 256) → (cf = 1 ∨ cf = 256) → -256 ≤ l - k ∧ l - k ≤ 256 → l - k ≠ 0 → (e * ce + f * cf) % 65535 = 0 → (e * ce * k + f * cf * l) % 65535 = 0 → e = 0 ∧ f = 0 := by
      intro e f ce cf k l he hf hce hcf hkl hne q1 q2
      have e3 : f * cf * l = f * cf * k + f * cf * (l - k) := by rw [← Int.mul_add]; congr 1; omega
      have e4 : e * ce * k + f * cf * l = (e * ce + f * cf) * k + f * (cf * (l - k)) := by rw [e3, Int.add_mul, Int.mul_assoc f cf (l - k)]; omega
      obtain ⟨q, hq⟩ := Int.dvd_of_emod_eq_zero q1
      have e5 : (e * ce + f * cf) * k = 65535 * (q * k) := by rw [hq, Int.mul_assoc]
      rw [e4, e5] at q2
      have q3 : (f * (cf * (l - k))) % 65535 = 0 := by
        generalize q * k = qk at q2
        generalize f * (cf * (l - k)) = z at *
        omega
      have hf0 : f = 0 := by
        rcases hcf with rfl | rfl
        · rw [Int.one_mul] at q3
          rcases small_prod hf hkl q3 with h | h
          · exact h
          · exact absurd h hne
        · have q4 : (f * (l - k)) % 65535 = 0 := by
            have e6 : f * (256 * (l - k)) = 256 * (f * (l - k)) := by rw [← Int.mul_assoc, Int.mul_comm f 256, Int.mul_assoc]
            rw [e6] at q3
            generalize f * (l - k) = z at *
            omega
          rcases small_prod hf hkl q4 with h | h
          · exact h
          · exact absurd h hne
      subst hf0
      refine ⟨?_, rfl⟩
      rcases hce with rfl | rfl <;> omega
    have ci : c i = 1 ∨ c i = 256 := by rcases c_cases i with ⟨_, h⟩ | ⟨_, h⟩ <;> simp [h]
    have cj : c j = 1 ∨ c j = 256 := by rcases c_cases j with ⟨_, h⟩ | ⟨_, h⟩ <;> simp [h]
    have r := key ((x : Int) - A) ((y : Int) - B) (c i) (c j) ((K : Int) - ((i / 2 : Nat) : Int)) ((K : Int) - ((j / 2 : Nat) : Int)) (by omega) (by omega) ci cj (by omega) (by omega)
      (by generalize ((x : Int) - A) * c i = P at *; generalize ((y : Int) - B) * c j = Q at *; omega)
      (by generalize ((x : Int) - A) * c i * ((K : Int) - ((i / 2 : Nat) : Int)) = P at *; generalize ((y : Int) - B) * c j * ((K : Int) - ((j / 2 : Nat) : Int)) = Q at *; omega)
    omega

end Go.Proofs.Qxb6500698aGreatDoor.Flt
