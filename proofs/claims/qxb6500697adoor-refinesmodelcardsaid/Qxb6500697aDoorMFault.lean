/-
  THE MODEL's faults.
-/
import Derived.Test.Qxb6500697aDoorMSmall
import Derived.Test.Qxb6500697aDoorKGathP
import Derived.Test.Qxb6500697aDoorKChoose
namespace Go.Proofs.Qxb6500697aDoor
open Go.RowKit

theorem gcls_gen {k N : Nat} {ss : List Sd} (h : ∃ x ∈ ss, ¬ goodG x.g) : gcls k N ss = some 1 := by
  have h1 : (gfold N (g0of ss) ss).bg = true := by
    rw [gfold_bg_eq, List.any_eq_true]
    obtain ⟨x, hx, hn⟩ := h
    refine ⟨x, hx, ?_⟩
    have : okG x = false := decide_eq_false hn
    rw [this]; rfl
  unfold gcls
  rw [h1]; rfl
theorem gcls_ix {k N : Nat} {ss : List Sd} (h : ∀ x ∈ ss, goodG x.g) (hn : ∃ x ∈ ss, x.ix < 0 ∨ (N : Int) ≤ x.ix) : gcls k N ss = some 3 := by
  have e1 : ∀ x ∈ ss, okG x = true := fun x hx => decide_eq_true (h x hx)
  have h1 : (gfold N (g0of ss) ss).bg = false := by rw [gfold_bg_eq, List.any_eq_false]; intro x hx; simp [e1 x hx]
  have h2 : (gfold N (g0of ss) ss).bi = true := by
    rw [gfold_bi_eq, List.any_eq_true]
    obtain ⟨x, hx, hb⟩ := hn
    refine ⟨x, hx, ?_⟩
    have : okI N x = false := decide_eq_false (by omega)
    rw [e1 x hx, this]; rfl
  unfold gcls
  rw [h1, h2]; rfl

/-- The class of a refusal, as a number: none is 0. -/
def clsN : Option Nat → Nat
  | none => 0
  | some i => i + 1

/-- Shards at hand in a world behind the call's. -/
theorem SdRow.at_ {w : World} {ao : Option Addr} {ss : List Sd} (h : SdRow w ao ss) {j : Nat} (hj : j < ss.length) : ∃ b, ao = some ⟨b, 0, none⟩ ∧ w.cell? ⟨b, j * 4, none⟩ = some (.int .u8 (ss[j]).g) ∧ w.cell? ⟨b, j * 4 + 1, none⟩ = some (.int .i64 (ss[j]).ix) ∧ w.cell? ⟨b, j * 4 + 2, none⟩ = some (.int .i64 (ss[j]).ol) ∧ w.cell? ⟨b, j * 4 + 3, none⟩ = some (.slice (ss[j]).pa (ss[j]).pl (ss[j]).pc) := by
  obtain ⟨b, ha, hr⟩ := h.row (by omega)
  exact ⟨b, ha, hr j hj⟩

theorem mem_of_lt {ss : List Sd} {P : Sd → Prop} (h : ∀ j (hj : j < ss.length), P ss[j]) : ∀ x ∈ ss, P x := by
  intro x hx
  obtain ⟨j, hj, rfl⟩ := List.getElem_of_mem hx
  exact h j hj

theorem nodup_of_lt {ss : List Sd} (hi : ∀ x ∈ ss, 0 ≤ x.ix) (h : ∀ a b, b < a → (ha : a < ss.length) → (hb : b < ss.length) → (ss[a]).ix ≠ (ss[b]).ix) : (ss.map fun x => x.ix.toNat).Nodup := by
  rw [List.nodup_iff_pairwise_ne, List.pairwise_iff_getElem]
  intro b a hb ha hlt he
  simp only [List.length_map] at hb ha
  simp only [List.getElem_map] at he
  have h1 := hi _ (List.getElem_mem ha)
  have h2 := hi _ (List.getElem_mem hb)
  exact h a b hlt ha hb (by omega)
theorem not_nodup {ss : List Sd} {a b : Nat} (hlt : b < a) (ha : a < ss.length) (hb : b < ss.length) (h : (ss[a]).ix = (ss[b]).ix) : ¬ (ss.map fun x => x.ix.toNat).Nodup := by
  rw [List.nodup_iff_pairwise_ne, List.pairwise_iff_getElem]
  intro hp
  exact hp b a (by simpa using hb) (by simpa using ha) hlt (by simp [h])

set_option maxRecDepth 100000 in
set_option maxHeartbeats 4000000 in
theorem faults_any (k m : Nat) (ao : Option Addr) (cap : Nat) (ss : List Sd) (w : World) (hk : 1 ≤ k) (hm : 1 ≤ m) (hkm : k + m ≤ 16) (hS : SdRow w ao ss) (hlen : ss.length ≤ 65536) (hcap : ss.length ≤ cap) :
    Calls Tryd.prog 63 #[.int .i64 k, .int .i64 m, .slice ao ss.length cap] w fun r w' => r = .returned (.int .u8 ((clsN (gcls k (k + m) ss) : Nat) : Int)) ∧ Below w.heap.size w w' := by
  obtain ⟨N, hN⟩ : ∃ N, k + m = N := ⟨_, rfl⟩
  have hNi : (k : Int) + (m : Int) = (N : Int) := by omega
  rw [hN] at hkm ⊢
  have HS : Hid (SdRow w ao ss) := hS
  obtain ⟨L, hL⟩ : ∃ L, ss.length = L := ⟨_, rfl⟩
  have HL : Hid (ss.length = L) := hL
  rw [hL] at hlen hcap ⊢
  clear hS hL hN
  go_enter Tryd.func63, Tryd.ntmps63
  go_wp2
  go_loopw [19] (fun i wr => ∃ j : Nat, j ≤ L ∧ i = .int .i64 j ∧ (∀ p (hp : p < ss.length), p < j → goodG (ss[p]).g) ∧ Below w.heap.size w wr) (fun i _ => L - (intOf i).toNat)
  case atStart => exact ⟨0, Nat.zero_le _, rfl, fun p hp h => by omega, Below.refl _ _⟩
  case round =>
    obtain ⟨j, hj, rfl, hgs, hb⟩ := hrel
    by_cases hlt : j < L
    · have hlt' : (j : Int) < (L : Int) := by omega
      have hjs : j < ss.length := by rw [HL.out]; exact hlt
      obtain ⟨b, rfl, c0, c1, c2, c3⟩ := (HS.out.keeps (Below.keeps hb)).at_ hjs
      have hxo := HS.out.ok ss[j] (List.getElem_mem hjs)
      have hmem : ss[j] ∈ ss := List.getElem_mem hjs
      obtain ⟨x, hx⟩ : ∃ x, ss[j] = x := ⟨_, rfl⟩
      rw [hx] at c0 c1 c2 c3 hxo hmem
      have hxg := hxo.hg
      have HGG : Hid (∀ V, _) := fun V => goodGen_any x.g V hxg
      have HB : Hid (∀ o, Below w.heap.size w (wr.alloc o)) := fun o => hb.alloc hb.size o
      by_cases hgd : goodG x.g
      · rw [show genOk x.g = true from decide_eq_true hgd] at HGG
        have HF : Hid (∀ p (hp : p < ss.length), p < j + 1 → goodG (ss[p]).g) := fun p hp h => by
          by_cases e : p = j
          · subst e; rw [hx]; exact hgd
          · exact hgs p hp (by omega)
        clear hgs hb hxo hmem hx hgd
        go_wp2_with fail
        refine Calls.mono (HGG.out _) ?_
        rintro r w' ⟨rfl, hw⟩
        have hw := hw.symm; subst hw
        clear HGG
        go_wp2
        go_roundw
        case rel => exact ⟨j + 1, by omega, by go_num, HF.out, HB.out _⟩
        case measure => simp [intOf]; omega
      · rw [show genOk x.g = false from decide_eq_false hgd] at HGG
        have HF : Hid (gcls k N ss = some 1) := gcls_gen ⟨x, hmem, hgd⟩
        clear hgs hb hxo hmem hx hgd
        go_wp2_with fail
        refine Calls.mono (HGG.out _) ?_
        rintro r w' ⟨rfl, hw⟩
        have hw := hw.symm; subst hw
        clear HGG
        go_wp2
        go_ret
        exact ⟨by rw [HF.out]; rfl, HB.out _⟩
    · have hlt' : ¬ (j : Int) < (L : Int) := by omega
      have HG1 : Hid (∀ x ∈ ss, goodG x.g) := mem_of_lt fun p hp => hgs p hp (by rw [HL.out] at hp; omega)
      obtain ⟨w1, hw1⟩ : ∃ w1, w1 = wr := ⟨_, rfl⟩
      subst hw1
      have HB1 : Hid (Below w.heap.size w w1) := hb
      clear hgs hb
      go_wp2
      go_loopw [30] (fun i wr => ∃ j : Nat, j ≤ L ∧ i = .int .i64 j ∧ (∀ p (hp : p < ss.length), p < j → 0 ≤ (ss[p]).ix ∧ (ss[p]).ix < (N : Int)) ∧ Below w.heap.size w wr) (fun i _ => L - (intOf i).toNat)
      case atStart => exact ⟨0, Nat.zero_le _, rfl, fun p hp h => by omega, HB1.out⟩
      case round =>
        obtain ⟨j, hj, rfl, hgs, hb⟩ := hrel
        by_cases hlt : j < L
        · have hlt' : (j : Int) < (L : Int) := by omega
          have hjs : j < ss.length := by rw [HL.out]; exact hlt
          obtain ⟨b, rfl, c0, c1, c2, c3⟩ := (HS.out.keeps (Below.keeps hb)).at_ hjs
          have hxo := HS.out.ok ss[j] (List.getElem_mem hjs)
          have hmem : ss[j] ∈ ss := List.getElem_mem hjs
          obtain ⟨x, hx⟩ : ∃ x, ss[j] = x := ⟨_, rfl⟩
          rw [hx] at c0 c1 c2 c3 hxo hmem
          have HB : Hid (∀ o, Below w.heap.size w (wr.alloc o)) := fun o => hb.alloc hb.size o
          by_cases h0 : x.ix < 0
          · have HF : Hid (gcls k N ss = some 3) := gcls_ix HG1.out ⟨x, hmem, .inl h0⟩
            clear hgs hb hxo hmem hx
            go_wp2
            go_ret
            exact ⟨by rw [HF.out]; rfl, HB.out _⟩
          · by_cases h1 : (N : Int) ≤ x.ix
            · have HF : Hid (gcls k N ss = some 3) := gcls_ix HG1.out ⟨x, hmem, .inr h1⟩
              clear hgs hb hxo hmem hx
              go_wp2
              go_ret
              exact ⟨by rw [HF.out]; rfl, HB.out _⟩
            · have HF : Hid (∀ p (hp : p < ss.length), p < j + 1 → 0 ≤ (ss[p]).ix ∧ (ss[p]).ix < (N : Int)) := fun p hp h => by
                by_cases e : p = j
                · subst e; rw [hx]; omega
                · exact hgs p hp (by omega)
              clear hgs hb hxo hmem hx
              go_wp2
              go_roundw
              case rel => exact ⟨j + 1, by omega, by go_num, HF.out, HB.out _⟩
              case measure => simp [intOf]; omega
        · have hlt' : ¬ (j : Int) < (L : Int) := by omega
          have HG2 : Hid (∀ x ∈ ss, 0 ≤ x.ix ∧ x.ix < (N : Int)) := mem_of_lt fun p hp => hgs p hp (by rw [HL.out] at hp; omega)
          obtain ⟨w2, hw2⟩ : ∃ w2, w2 = wr := ⟨_, rfl⟩
          subst hw2
          have HB2 : Hid (Below w.heap.size w w2) := hb
          clear hgs hb HB1
          go_wp2
          go_loopw [48] (fun i wr => ∃ j : Nat, j ≤ L ∧ i = .int .i64 j ∧ (∀ p (hp : p < ss.length), p < j → (ss[p]).g = g0of ss) ∧ Below w.heap.size w wr) (fun i _ => L - (intOf i).toNat)
          case atStart => exact ⟨0, Nat.zero_le _, rfl, fun p hp h => by omega, HB2.out⟩
          case round =>
            obtain ⟨j, hj, rfl, hgs, hb⟩ := hrel
            by_cases hlt : j < L
            · have hlt' : (j : Int) < (L : Int) := by omega
              have hL0 : 0 < L := by omega
              have hL0' : (0 : Int) < (L : Int) := by omega
              have hjs : j < ss.length := by rw [HL.out]; exact hlt
              have hSr := HS.out.keeps (Below.keeps hb)
              obtain ⟨b, rfl, c0, c1, c2, c3⟩ := hSr.at_ hjs
              obtain ⟨b', hbe, z0, _⟩ := g0of_cell hSr (by omega)
              obtain rfl : b = b' := congrArg (fun x : Option Addr => (x.getD ⟨0, 0, none⟩).block) hbe
              have hxo := HS.out.ok ss[j] (List.getElem_mem hjs)
              have hmem : ss[j] ∈ ss := List.getElem_mem hjs
              obtain ⟨x, hx⟩ : ∃ x, ss[j] = x := ⟨_, rfl⟩
              rw [hx] at c0 c1 c2 c3 hxo hmem
              obtain ⟨W, hW⟩ : ∃ W, wr.alloc (.cells #[.int .u8 x.g, .int .i64 x.ix, .int .i64 x.ol, .slice x.pa x.pl x.pc] 60) = W := ⟨_, rfl⟩
              have hbW : Below wr.heap.size wr W := by rw [← hW]; exact (Below.refl _ _).alloc (Nat.le_refl _) _
              have d0 : W.cell? ⟨wr.heap.size, 0, none⟩ = some (.int .u8 x.g) := by rw [← hW]; simp
              have z0 := Below.keeps hbW _ _ _ z0
              have HB : Hid (∀ q, Below w.heap.size w (W.drewN q)) := fun q => (hb.trans (hbW.mono hb.size)).trans (drewN_below _ _ _)
              obtain ⟨g0, hg0⟩ : ∃ g0, g0of ss = g0 := ⟨_, rfl⟩
              rw [hg0] at z0
              by_cases h0 : x.g = g0
              · have HF : Hid (∀ p (hp : p < ss.length), p < j + 1 → (ss[p]).g = g0of ss) := fun p hp h => by
                  by_cases e : p = j
                  · subst e; rw [hx, h0, hg0]
                  · exact hgs p hp (by omega)
                have hne : ((x.g : Int) != (g0 : Int)) = false := by simp; omega
                clear hgs hb hxo hmem hx hSr hbe h0 hg0 hbW
                go_wp2
                clear hW
                go_quiet (fail)
                go_wp2
                go_roundw
                case rel => exact ⟨j + 1, by omega, by go_num, HF.out, HB.out _⟩
                case measure => simp [intOf]; omega
              · have HF : Hid (gcls k N ss = some 4) := gcls_mix (fun y hy => ⟨HG1.out y hy, HG2.out y hy⟩) ⟨x, hmem, by rw [hg0]; exact h0⟩
                have hne : ((x.g : Int) != (g0 : Int)) = true := by simp; omega
                clear hgs hb hxo hmem hx hSr hbe h0 hg0 hbW
                go_wp2
                clear hW
                go_quiet (fail)
                go_wp2
                go_ret
                exact ⟨by rw [HF.out]; rfl, HB.out _⟩
            · have hlt' : ¬ (j : Int) < (L : Int) := by omega
              have HG3 : Hid (∀ x ∈ ss, Fit1 N (g0of ss) x) := fun x hx => ⟨HG1.out x hx, HG2.out x hx, mem_of_lt (P := fun x => x.g = g0of ss) (fun p hp => hgs p hp (by rw [HL.out] at hp; omega)) x hx⟩
              obtain ⟨w3, hw3⟩ : ∃ w3, w3 = wr := ⟨_, rfl⟩
              subst hw3
              have HB3 : Hid (Below w.heap.size w w3) := hb
              clear hgs hb HB2
              go_wp2
              go_loopw [62] (fun i wr => ∃ j : Nat, j ≤ L ∧ i = .int .i64 j ∧ (∀ a b, b < a → a < j → (ha : a < ss.length) → (hb : b < ss.length) → (ss[a]).ix ≠ (ss[b]).ix) ∧ Below w.heap.size w wr) (fun i _ => L - (intOf i).toNat)
              case atStart => exact ⟨0, Nat.zero_le _, rfl, fun a b _ h => by omega, HB3.out⟩
              case round =>
                obtain ⟨j, hj, rfl, hgs, hb⟩ := hrel
                by_cases hlt : j < L
                · have hlt' : (j : Int) < (L : Int) := by omega
                  have hjc : (j : Int) ≤ (cap : Int) := by omega
                  have HD : Hid (∀ a b, b < a → a < j → (ha : a < ss.length) → (hb : b < ss.length) → (ss[a]).ix ≠ (ss[b]).ix) := hgs
                  have HB4 : Hid (Below w.heap.size w wr) := hb
                  clear hgs hb
                  go_wp2
                  go_loopw [69] (fun i wr => ∃ q : Nat, q ≤ j ∧ i = .int .i64 q ∧ (∀ b, b < q → (ha : j < ss.length) → (hb : b < ss.length) → (ss[j]).ix ≠ (ss[b]).ix) ∧ Below w.heap.size w wr) (fun i _ => j - (intOf i).toNat)
                  case atStart => exact ⟨0, Nat.zero_le _, rfl, fun b h => by omega, HB4.out⟩
                  case round =>
                    obtain ⟨q, hq, rfl, hgs, hb⟩ := hrel
                    by_cases hlq : q < j
                    · have hlq' : (q : Int) < (j : Int) := by omega
                      have hqL' : (q : Int) < (L : Int) := by omega
                      have hjs : j < ss.length := by rw [HL.out]; exact hlt
                      have hqs : q < ss.length := by rw [HL.out]; omega
                      have hSr := HS.out.keeps (Below.keeps hb)
                      obtain ⟨b, rfl, _, c1, _, _⟩ := hSr.at_ hjs
                      obtain ⟨b', hbe, _, d1, _, _⟩ := hSr.at_ hqs
                      obtain rfl : b = b' := congrArg (fun x : Option Addr => (x.getD ⟨0, 0, none⟩).block) hbe
                      have HB : Hid (∀ q, Below w.heap.size w (wr.drewN q)) := fun q => hb.trans (drewN_below _ _ _)
                      obtain ⟨x, hx⟩ : ∃ x, (ss[j]).ix = x := ⟨_, rfl⟩
                      obtain ⟨y, hy⟩ : ∃ y, (ss[q]).ix = y := ⟨_, rfl⟩
                      rw [hx] at c1
                      rw [hy] at d1
                      by_cases h0 : x = y
                      · have HF : Hid (gcls k N ss = some 5) := gcls_dup HG3.out (not_nodup hlq hjs hqs (by rw [hx, hy]; exact h0))
                        have hne : (x == y) = true := by simp; omega
                        clear hgs hb hSr hbe h0 hx hy
                        go_wp2
                        go_quiet (fail)
                        go_wp2
                        go_ret
                        exact ⟨by rw [HF.out]; rfl, HB.out _⟩
                      · have HF : Hid (∀ b, b < q + 1 → (ha : j < ss.length) → (hb : b < ss.length) → (ss[j]).ix ≠ (ss[b]).ix) := fun b hbq ha hb => by
                          by_cases e : b = q
                          · subst e; rw [hx, hy]; exact h0
                          · exact hgs b (by omega) ha hb
                        have hne : (x == y) = false := by simp; omega
                        clear hgs hb hSr hbe h0 hx hy
                        go_wp2
                        go_quiet (fail)
                        go_wp2
                        go_roundw
                        case rel => exact ⟨q + 1, by omega, by go_num, HF.out, HB.out _⟩
                        case measure => simp [intOf]; omega
                    · have hlq' : ¬ (q : Int) < (j : Int) := by omega
                      have HF : Hid ((∀ a b, b < a → a < j + 1 → (ha : a < ss.length) → (hb : b < ss.length) → (ss[a]).ix ≠ (ss[b]).ix) ∧ Below w.heap.size w wr) := ⟨fun a b hba haj ha hb' => by
                        by_cases e : a = j
                        · subst e; exact hgs b (by omega) ha hb'
                        · exact HD.out a b hba (by omega) ha hb', hb⟩
                      clear hgs hb
                      go_wp2
                      go_roundw
                      case rel => exact ⟨j + 1, by omega, by go_num, HF.out⟩
                      case measure => simp [intOf]; omega
                · have hlt' : ¬ (j : Int) < (L : Int) := by omega
                  have HG4 : Hid (gcls k N ss = gcls2 k ss) := gcls_two HG3.out (nodup_of_lt (fun x hx => (HG2.out x hx).1) (fun a b hab ha hb => hgs a b hab (by rw [HL.out] at ha; omega) ha hb))
                  obtain ⟨w4, hw4⟩ : ∃ w4, w4 = wr := ⟨_, rfl⟩
                  subst hw4
                  have HB4 : Hid (Below w.heap.size w w4) := hb
                  clear hgs hb HB3
                  go_wp2
                  go_loopw [87] (fun i wr => ∃ j : Nat, j ≤ L ∧ i = .int .i64 j ∧ (∀ p (hp : p < ss.length), p < j → (0 ≤ ol0of ss ∧ ol0of ss ≤ 256) ∧ (ss[p]).ol = ol0of ss ∧ (ss[p]).pl = psize (g0of ss) k (ol0of ss).toNat) ∧ Below w.heap.size w wr) (fun i _ => L - (intOf i).toNat)
                  case atStart => exact ⟨0, Nat.zero_le _, rfl, fun p hp h => by omega, HB4.out⟩
                  case round =>
                    obtain ⟨j, hj, rfl, hgs, hb⟩ := hrel
                    by_cases hlt : j < L
                    · have hlt' : (j : Int) < (L : Int) := by omega
                      have hL0 : 0 < L := by omega
                      have hL0' : (0 : Int) < (L : Int) := by omega
                      have hjs : j < ss.length := by rw [HL.out]; exact hlt
                      have hne : ss ≠ [] := fun h => by rw [h] at hjs; simp at hjs
                      have hSr := HS.out.keeps (Below.keeps hb)
                      obtain ⟨b, rfl, c0, c1, c2, c3⟩ := hSr.at_ hjs
                      obtain ⟨b', hbe, _, z2⟩ := g0of_cell hSr (by omega)
                      obtain rfl : b = b' := congrArg (fun x : Option Addr => (x.getD ⟨0, 0, none⟩).block) hbe
                      have hxo := HS.out.ok ss[j] (List.getElem_mem hjs)
                      have hmem : ss[j] ∈ ss := List.getElem_mem hjs
                      obtain ⟨x, hx⟩ : ∃ x, ss[j] = x := ⟨_, rfl⟩
                      rw [hx] at c0 c1 c2 c3 hxo hmem
                      have hxg := hxo.hg
                      have hxl := hxo.cap
                      have hxc := hxo.cap2
                      have hgx : x.g = g0of ss := (HG3.out x hmem).same
                      have hol := hxo.hol
                      obtain ⟨o0, ho0⟩ : ∃ o0, ol0of ss = o0 := ⟨_, rfl⟩
                      rw [ho0] at z2
                      obtain ⟨W, hW⟩ : ∃ W, wr.alloc (.cells #[.int .u8 x.g, .int .i64 x.ix, .int .i64 x.ol, .slice x.pa x.pl x.pc] 60) = W := ⟨_, rfl⟩
                      have hbW : Below wr.heap.size wr W := by rw [← hW]; exact (Below.refl _ _).alloc (Nat.le_refl _) _
                      have d0 : W.cell? ⟨wr.heap.size, 0, none⟩ = some (.int .u8 x.g) := by rw [← hW]; simp
                      have d2 : W.cell? ⟨wr.heap.size, 2, none⟩ = some (.int .i64 x.ol) := by rw [← hW]; simp
                      have d3 : W.cell? ⟨wr.heap.size, 3, none⟩ = some (.slice x.pa x.pl x.pc) := by rw [← hW]; simp
                      have z2 := Below.keeps hbW _ _ _ z2
                      have HB : Hid (∀ q q', Below w.heap.size w ((W.drewN q).drewN q')) := fun q q' => ((hb.trans (hbW.mono hb.size)).trans (drewN_below _ _ _)).trans (drewN_below _ _ _)
                      have HB' : Hid (∀ q, Below w.heap.size w (W.drewN q)) := fun q => (hb.trans (hbW.mono hb.size)).trans (drewN_below _ _ _)
                      by_cases h0 : x.ol < 0
                      · have HF : Hid (gcls2 k ss = some 6) := gcls2_shape hne (by
                          by_cases e : x.ol = ol0of ss
                          · exact .inl (by rw [← e]; exact h0)
                          · exact .inr (.inr ⟨x, hmem, .inl e⟩))
                        clear hgs hb hxo hmem hx hSr hbe ho0 hbW hgx hne
                        go_wp2
                        clear hW
                        go_quiet (fail)
                        go_wp2
                        go_ret
                        exact ⟨by rw [HG4.out, HF.out]; rfl, HB'.out _⟩
                      · by_cases h1 : 256 < x.ol
                        · have HF : Hid (gcls2 k ss = some 6) := gcls2_shape hne (by
                            by_cases e : x.ol = ol0of ss
                            · exact .inr (.inl (by rw [← e]; exact h1))
                            · exact .inr (.inr ⟨x, hmem, .inl e⟩))
                          clear hgs hb hxo hmem hx hSr hbe ho0 hbW hgx hne
                          go_wp2
                          clear hW
                          go_quiet (fail)
                          go_wp2
                          go_ret
                          exact ⟨by rw [HG4.out, HF.out]; rfl, HB'.out _⟩
                        · by_cases h2 : x.ol = o0
                          · have hne2 : (x.ol != o0) = false := by simp [h2]
                            obtain ⟨n, hn⟩ : ∃ n : Nat, x.ol = (n : Int) := ⟨x.ol.toNat, by omega⟩
                            have hn256 : n ≤ 256 := by omega
                            have HSL : Hid (∀ V, _) := fun V => mshardLen_any x.g k n V hxg hk (by omega) hn256
                            have hps := psize_le x.g k n hk hn256
                            rw [hn] at d2 hne2 h0 h1 hW c2
                            have hnt : (ol0of ss).toNat = n := by rw [ho0, ← h2, hn]; rfl
                            by_cases h3 : x.pl = psize x.g k n
                            · have HF : Hid (∀ p (hp : p < ss.length), p < j + 1 → (0 ≤ ol0of ss ∧ ol0of ss ≤ 256) ∧ (ss[p]).ol = ol0of ss ∧ (ss[p]).pl = psize (g0of ss) k (ol0of ss).toNat) := fun p hp h => by
                                by_cases e : p = j
                                · subst e
                                  rw [hx, hnt, ← hgx, ho0]
                                  exact ⟨by omega, h2, h3⟩
                                · exact hgs p hp (by omega)
                              have hne3 : ((x.pl : Int) != ((psize x.g k n : Nat) : Int)) = false := by simp; omega
                              obtain ⟨S, hS⟩ : ∃ S, psize x.g k n = S := ⟨_, rfl⟩
                              rw [hS] at HSL hps hne3
                              clear hgs hb hxo hmem hx hSr hbe ho0 hbW hgx hne h2 hnt h3 hS hn hol
                              go_wp2
                              clear hW
                              go_quiet (fail)
                              go_wp2
                              obtain ⟨W2, hW2⟩ : ∃ W2, W.drewN nq = W2 := ⟨_, rfl⟩
                              rw [hW2]
                              have kk : Keeps W W2 := by rw [← hW2]; exact Below.keeps (drewN_below _ _ _)
                              have d0 := kk _ _ _ d0
                              have d2 := kk _ _ _ d2
                              have d3 := kk _ _ _ d3
                              have HB2 : Hid (∀ q', Below w.heap.size w (W2.drewN q')) := fun q' => by rw [← hW2]; exact HB.out _ _
                              clear kk hW2
                              go_quiet (first | (go_at_call 48; with_reducible exact Calls.quiet_of_same (HSL.out _)))
                              go_wp2
                              go_roundw
                              case rel => exact ⟨j + 1, by omega, by go_num, HF.out, HB2.out _⟩
                              case measure => simp [intOf]; omega
                            · have HF : Hid (gcls2 k ss = some 6) := gcls2_shape hne (.inr (.inr ⟨x, hmem, .inr (by rw [hnt, ← hgx]; exact h3)⟩))
                              have hne3 : ((x.pl : Int) != ((psize x.g k n : Nat) : Int)) = true := by simp; omega
                              obtain ⟨S, hS⟩ : ∃ S, psize x.g k n = S := ⟨_, rfl⟩
                              rw [hS] at HSL hps hne3
                              clear hgs hb hxo hmem hx hSr hbe ho0 hbW hgx hne h2 hnt h3 hS hn hol
                              go_wp2
                              clear hW
                              go_quiet (fail)
                              go_wp2
                              obtain ⟨W2, hW2⟩ : ∃ W2, W.drewN nq = W2 := ⟨_, rfl⟩
                              rw [hW2]
                              have kk : Keeps W W2 := by rw [← hW2]; exact Below.keeps (drewN_below _ _ _)
                              have d0 := kk _ _ _ d0
                              have d2 := kk _ _ _ d2
                              have d3 := kk _ _ _ d3
                              have HB2 : Hid (∀ q', Below w.heap.size w (W2.drewN q')) := fun q' => by rw [← hW2]; exact HB.out _ _
                              clear kk hW2
                              go_quiet (first | (go_at_call 48; with_reducible exact Calls.quiet_of_same (HSL.out _)))
                              go_wp2
                              go_ret
                              exact ⟨by rw [HG4.out, HF.out]; rfl, HB2.out _⟩
                          · have hne2 : (x.ol != o0) = true := by simpa using h2
                            have HF : Hid (gcls2 k ss = some 6) := gcls2_shape hne (.inr (.inr ⟨x, hmem, .inl (by rw [ho0]; exact h2)⟩))
                            clear hgs hb hxo hmem hx hSr hbe ho0 hbW hgx hne h2
                            go_wp2
                            clear hW
                            go_quiet (fail)
                            go_wp2
                            go_ret
                            exact ⟨by rw [HG4.out, HF.out]; rfl, HB'.out _⟩
                    · have hlt' : ¬ (j : Int) < (L : Int) := by omega
                      have hsh : ∀ x ∈ ss, (0 ≤ ol0of ss ∧ ol0of ss ≤ 256) ∧ x.ol = ol0of ss ∧ x.pl = psize (g0of ss) k (ol0of ss).toNat := mem_of_lt fun p hp => hgs p hp (by rw [HL.out] at hp; omega)
                      have HB : Hid (Below w.heap.size w wr) := hb
                      have hnb : ss ≠ [] → ¬ shapeBad k ss := fun hne hbad => by
                        obtain ⟨y, hy⟩ := List.exists_mem_of_ne_nil ss hne
                        have h1 := (hsh y hy).1
                        rcases hbad with h | h | ⟨x, hx, h⟩
                        · omega
                        · omega
                        · have := (hsh x hx).2
                          rcases h with h | h
                          · exact h this.1
                          · exact h this.2
                      by_cases hf : L < k
                      · have hf' : (L : Int) < (k : Int) := by omega
                        have HF : Hid (gcls2 k ss = some 7) := by
                          show gcls2 k ss = some 7
                          by_cases e : ss = []
                          · exact gcls2_nil k e
                          · exact gcls2_few e (hnb e) (by rw [HL.out]; exact hf)
                        clear hgs hb hsh hnb
                        go_wp2
                        go_ret
                        exact ⟨by rw [HG4.out, HF.out]; rfl, HB.out⟩
                      · have hf' : ¬ (L : Int) < (k : Int) := by omega
                        have HF : Hid (gcls2 k ss = none) := by
                          have e : ss ≠ [] := fun e => by have := HL.out; rw [e] at this; simp at this; omega
                          exact gcls2_ok e (hnb e) (by rw [HL.out]; exact hf)
                        clear hgs hb hsh hnb
                        go_wp2
                        go_ret
                        exact ⟨by rw [HG4.out, HF.out]; rfl, HB.out⟩
end Go.Proofs.Qxb6500697aDoor
