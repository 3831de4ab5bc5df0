/-
  PLAIN MATHEMATICS: A POLYNOMIAL WITH AS MANY ROOTS AS COEFFICIENTS IS ZERO.
-/
import Derived.Test.Qxb6500697aDoorKGauss
namespace Go.Proofs.Qxb6500697aDoor

/-- The power i^j in the field. -/
def gpow (i : Nat) : Nat → Nat
  | 0 => 1
  | j + 1 => gmul (gpow i j) i
theorem gpow_lt (i j : Nat) : gpow i j < 256 := by
  cases j with
  | zero => show (1 : Nat) < 256; decide
  | succ j => exact gmul_lt _ _

/-- The value at z of the polynomial with these coefficients, the lowest first. -/
def ev (z : Nat) : List Nat → Nat
  | [] => 0
  | c :: cs => c ^^^ gmul z (ev z cs)
theorem ev_lt (z : Nat) (l : List Nat) (h : ∀ c ∈ l, c < 256) : ev z l < 256 := by
  cases l with
  | nil => show (0 : Nat) < 256; decide
  | cons c cs => exact xor8n _ _ (h c List.mem_cons_self) (gmul_lt _ _)

theorem ev_snoc (z c : Nat) (l : List Nat) (hz : z < 256) (hl : ∀ c ∈ l, c < 256) (hc : c < 256) : ev z (l ++ [c]) = ev z l ^^^ gmul (gpow z l.length) c := by
  induction l with
  | nil => simp [ev, gpow, gmul_zero_right, gmul_one_left hc]
  | cons d l ih =>
    rw [List.cons_append, ev, ev, ih (fun x hx => hl x (List.mem_cons_of_mem _ hx)), gmul_xor_right, List.length_cons, gpow, ← Nat.xor_assoc]
    congr 1
    rw [← gmul_assoc hz (gpow_lt _ _) hc, gmul_comm hz (gpow_lt _ _)]

theorem ev_gdot (z : Nat) (x : Nat → Nat) (k : Nat) (hz : z < 256) (hx : BytV k x) : ev z ((List.range k).map x) = gdot (gpow z) x k := by
  induction k with
  | zero => rfl
  | succ k ih =>
    have hb : ∀ c ∈ (List.range k).map x, c < 256 := by
      intro c hc
      obtain ⟨i, hi, rfl⟩ := List.mem_map.1 hc
      exact hx i (by have := List.mem_range.1 hi; omega)
    rw [List.range_succ, List.map_append, List.map_singleton, ev_snoc z (x k) _ hz hb (hx k (by omega)), ih (fun i hi => hx i (by omega)), gdot]
    simp

/-- Division by z - a: the quotient's coefficients. -/
def sdiv (a : Nat) : List Nat → List Nat
  | [] => []
  | [_] => []
  | _ :: c :: cs => ev a (c :: cs) :: sdiv a (c :: cs)

theorem sdiv_length (a : Nat) : ∀ l : List Nat, (sdiv a l).length = l.length - 1
  | [] => rfl
  | [_] => rfl
  | _ :: c :: cs => by rw [sdiv, List.length_cons, sdiv_length a (c :: cs)]; simp
theorem sdiv_lt (a : Nat) : ∀ l : List Nat, (∀ c ∈ l, c < 256) → ∀ c ∈ sdiv a l, c < 256
  | [], _ => by intro c hc; cases hc
  | [_], _ => by intro c hc; cases hc
  | d :: c :: cs, h => by
    intro y hy
    rw [sdiv] at hy
    rcases List.mem_cons.1 hy with rfl | hy
    · exact ev_lt a _ (fun x hx => h x (List.mem_cons_of_mem _ hx))
    · exact sdiv_lt a (c :: cs) (fun x hx => h x (List.mem_cons_of_mem _ hx)) y hy

theorem sdiv_ev (a z : Nat) (ha : a < 256) (hz : z < 256) : ∀ l : List Nat, (∀ c ∈ l, c < 256) → ev z l ^^^ ev a l = gmul (z ^^^ a) (ev z (sdiv a l))
  | [], _ => by simp [ev, sdiv, gmul_zero_right]
  | [d], _ => by simp [ev, sdiv, gmul_zero_right]
  | d :: c :: cs, h => by
    have hb : ∀ x ∈ c :: cs, x < 256 := fun x hx => h x (List.mem_cons_of_mem _ hx)
    have ih := sdiv_ev a z ha hz (c :: cs) hb
    have hE := ev_lt z _ hb
    have hA := ev_lt a _ hb
    have hQ := ev_lt z _ (sdiv_lt a (c :: cs) hb)
    have h1 : ev z (d :: c :: cs) = d ^^^ gmul z (ev z (c :: cs)) := rfl
    have h2 : ev a (d :: c :: cs) = d ^^^ gmul a (ev a (c :: cs)) := rfl
    have h3 : ev z (sdiv a (d :: c :: cs)) = ev a (c :: cs) ^^^ gmul z (ev z (sdiv a (c :: cs))) := rfl
    rw [h1, h2, h3]
    generalize ev z (c :: cs) = E at *
    generalize ev a (c :: cs) = B at *
    generalize ev z (sdiv a (c :: cs)) = Q at *
    have hza : z ^^^ a < 256 := xor8n _ _ hz ha
    rw [gmul_xor_right, ← gmul_assoc hza hz hQ, gmul_comm hza hz, gmul_assoc hz hza hQ, ← ih, gmul_xor_right, gmul_xor_left, xor4, Nat.xor_self, Nat.zero_xor]
    -- z E + a B = (z B + a B) + (z E + z B)
    rw [Nat.xor_comm (gmul z E) (gmul z B), ← Nat.xor_assoc, Nat.xor_assoc (gmul z B) (gmul a B) (gmul z B), Nat.xor_comm (gmul a B) (gmul z B), ← Nat.xor_assoc, Nat.xor_self, Nat.zero_xor, Nat.xor_comm]

theorem sdiv_zero (a : Nat) : ∀ l : List Nat, (∀ c ∈ sdiv a l, c = 0) → ev a l = 0 → ∀ c ∈ l, c = 0
  | [], _, _ => by intro c hc; cases hc
  | [d], _, h => by
    intro c hc
    have : c = d := by simpa using hc
    subst this
    simpa [ev, gmul_zero_right] using h
  | d :: c :: cs, hq, h => by
    have h0 : ev a (c :: cs) = 0 := hq _ (by rw [sdiv]; exact List.mem_cons_self)
    have h1 := sdiv_zero a (c :: cs) (fun x hx => hq x (by rw [sdiv]; exact List.mem_cons_of_mem _ hx)) h0
    have h2 : ev a (d :: c :: cs) = d ^^^ gmul a (ev a (c :: cs)) := rfl
    rw [h2, h0, gmul_zero_right, Nat.xor_zero] at h
    intro x hx
    rcases List.mem_cons.1 hx with rfl | hx
    · exact h
    · exact h1 x hx

theorem xor_ne_zero {a b : Nat} (h : a ≠ b) : a ^^^ b ≠ 0 := fun e => h (by
  have h2 := congrArg (fun t => t ^^^ b) e
  simpa [Nat.xor_assoc] using h2)

/-- As many roots as coefficients: all coefficients are zero. -/
theorem roots : ∀ (pts l : List Nat), pts.length = l.length → pts.Nodup → (∀ z ∈ pts, z < 256) → (∀ c ∈ l, c < 256) → (∀ z ∈ pts, ev z l = 0) → ∀ c ∈ l, c = 0
  | [], l, hl, _, _, _, _ => by
    have : l = [] := List.length_eq_zero_iff.1 hl.symm
    subst this
    intro c hc; cases hc
  | a :: pts, l, hl, hn, hp, hb, hr => by
    have ha := hp a List.mem_cons_self
    have hra := hr a List.mem_cons_self
    obtain ⟨hn1, hn2⟩ := List.nodup_cons.1 hn
    refine sdiv_zero a l (roots pts (sdiv a l) (by rw [sdiv_length, ← hl]; simp) hn2 (fun z hz => hp z (List.mem_cons_of_mem _ hz)) (sdiv_lt a l hb) (fun z hz => ?_)) hra
    have hz8 := hp z (List.mem_cons_of_mem _ hz)
    have h := sdiv_ev a z ha hz8 l hb
    rw [hr z (List.mem_cons_of_mem _ hz), hra] at h
    have hne : z ≠ a := fun e => hn1 (e ▸ hz)
    rcases gmul_eq_zero (xor8n _ _ hz8 ha) (ev_lt z _ (sdiv_lt a l hb)) h.symm with h2 | h2
    · exact absurd h2 (xor_ne_zero hne)
    · exact h2

/-- The rows of powers at k different points have no kernel. -/
theorem pow_inj (k : Nat) (pts : Nat → Nat) (hp : ∀ i, i < k → pts i < 256) (hd : ∀ i j, i < k → j < k → pts i = pts j → i = j) : Inj k k (fun r c => gpow (pts r) c) := by
  intro x hx h0 i hi
  have hnd : ((List.range k).map pts).Nodup := by
    rw [List.nodup_iff_pairwise_ne, List.pairwise_map, List.pairwise_iff_getElem]
    intro a b ha hb hab e
    simp at ha hb e
    have := hd a b ha hb e
    omega
  have := roots ((List.range k).map pts) ((List.range k).map x) (by simp) hnd
    (by intro z hz; obtain ⟨j, hj, rfl⟩ := List.mem_map.1 hz; exact hp j (by simpa using hj))
    (by intro z hz; obtain ⟨j, hj, rfl⟩ := List.mem_map.1 hz; exact hx j (by simpa using hj))
    (by
      intro z hz
      obtain ⟨j, hj, rfl⟩ := List.mem_map.1 hz
      have hj' : j < k := by simpa using hj
      rw [ev_gdot (pts j) x k (hp j hj') hx]
      exact h0 j hj')
  exact this (x i) (List.mem_map.2 ⟨i, by simpa using hi, rfl⟩)

theorem vand_top (k : Nat) (hk : k ≤ 256) : ∃ s, gjS k gpow k = some s ∧ Byt k k s.2 ∧ Inj k k s.2 ∧ ∀ x, BytV k x → ∀ r, r < k → gdot (s.2 r) (fun t => gdot (gpow t) x k) k = x r :=
  gj_ok (fun r _ c _ => gpow_lt r c) (pow_inj k (fun r => r) (fun i hi => by omega) (fun i j _ _ e => e))
end Go.Proofs.Qxb6500697aDoor
