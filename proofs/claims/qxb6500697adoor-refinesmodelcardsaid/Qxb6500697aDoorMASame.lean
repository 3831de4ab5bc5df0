/-
  Answer.Same, ON ANSWERS THAT SHOW THE SAME.
-/
import Derived.Test.Qxb6500697aDoorKASame
namespace Go.Proofs.Qxb6500697aDoor
open Go.RowKit

/-- Numbers, read only. -/
def ZRow (w : World) (ao : Option Addr) (n : Nat) (f : Nat → Int) : Prop := 0 < n → ∃ b o, ao = some ⟨b, o, none⟩ ∧ ∀ i, i < n → w.cell? ⟨b, o + i, none⟩ = some (.int .i64 (f i))
theorem ZRow.keeps {w w' : World} {ao : Option Addr} {n : Nat} {f : Nat → Int} (h : ZRow w ao n f) (k : Keeps w w') : ZRow w' ao n f := fun h0 => by
  obtain ⟨b, o, ha, hc⟩ := h h0
  exact ⟨b, o, ha, fun i hi => k _ _ _ (hc i hi)⟩

/-- The shards lie behind a slice that begins anywhere in a block. -/
structure OSdRow (w : World) (ao : Option Addr) (ss : List Sd) : Prop where
  row : 0 < ss.length → ∃ b q, ao = some ⟨b, q, none⟩ ∧ ∀ j (hj : j < ss.length), w.cell? ⟨b, q + j * 4, none⟩ = some (.int .u8 (ss[j]).g) ∧ w.cell? ⟨b, q + j * 4 + 1, none⟩ = some (.int .i64 (ss[j]).ix) ∧ w.cell? ⟨b, q + j * 4 + 2, none⟩ = some (.int .i64 (ss[j]).ol) ∧ w.cell? ⟨b, q + j * 4 + 3, none⟩ = some (.slice (ss[j]).pa (ss[j]).pl (ss[j]).pc)
  ok : ∀ s ∈ ss, SdOk w s
theorem OSdRow.keeps {w w' : World} {ao : Option Addr} {ss : List Sd} (h : OSdRow w ao ss) (k : Keeps w w') : OSdRow w' ao ss := by
  refine ⟨fun h0 => ?_, fun s hs => (h.ok s hs).keeps k⟩
  obtain ⟨b, q, ha, hr⟩ := h.row h0
  refine ⟨b, q, ha, fun j hj => ?_⟩
  obtain ⟨h1, h2, h3, h4⟩ := hr j hj
  exact ⟨k _ _ _ h1, k _ _ _ h2, k _ _ _ h3, k _ _ _ h4⟩
theorem SdRow.o {w : World} {ao : Option Addr} {ss : List Sd} (h : SdRow w ao ss) : OSdRow w ao ss := by
  refine ⟨fun h0 => ?_, h.ok⟩
  obtain ⟨b, ha, hr⟩ := h.row h0
  refine ⟨b, 0, ha, fun j hj => ?_⟩
  rw [Nat.zero_add]
  exact hr j hj

/-- An answer: its class, its bytes, its shards, its numbers, its length. -/
def ansV (er : Nat) (da : Option Addr) (dl dc : Nat) (sa : Option Addr) (sl sc : Nat) (la : Option Addr) (ll lc : Nat) (n : Int) : Value := .agg #[.int .u8 (er : Int), .slice da dl dc, .slice sa sl sc, .slice la ll lc, .int .i64 n]

set_option maxRecDepth 100000 in
set_option maxHeartbeats 4000000 in
theorem asame_eq (w : World) (er : Nat) (n : Int) (da db : Option Addr) (D dca dcb : Nat) (df dg : Nat → Nat) (ao bo : Option Addr) (ca cb L : Nat) (ss ts : List Sd) (la lb : Option Addr) (M lca lcb : Nat) (lf lg : Nat → Int)
    (hda : FRow w da D df) (hdb : FRow w db D dg) (hD : D ≤ 65536) (hde : ∀ i, i < D → df i = dg i)
    (hS : OSdRow w ao ss) (hT : OSdRow w bo ts) (hl : ss.length = L) (hl2 : ts.length = L) (hL : L ≤ 65536) (hs : ∀ i, i < L → (ss.getD i Sd.zero).same (ts.getD i Sd.zero)) (hp : ∀ i, i < L → (ss.getD i Sd.zero).pl ≤ 140737488355328)
    (hla : ZRow w la M lf) (hlb : ZRow w lb M lg) (hM : M ≤ 65536) (hle : ∀ i, i < M → lf i = lg i) :
    Calls Tryd.prog 15 #[ansV er da D dca ao L ca la M lca n, ansV er db D dcb bo L cb lb M lcb n] w fun e w' => e = .returned (.bool true) ∧ Below w.heap.size w w' := by
  unfold ansV
  obtain ⟨W, hW⟩ : ∃ W, (w.alloc (.cells #[.int .u8 er, .slice da D dca, .slice ao L ca, .slice la M lca, .int .i64 n] 38)).alloc (.cells #[.int .u8 er, .slice db D dcb, .slice bo L cb, .slice lb M lcb, .int .i64 n] 38) = W := ⟨_, rfl⟩
  have hB : Below w.heap.size w W := by rw [← hW]; exact ((Below.refl _ _).alloc (Nat.le_refl _) _).alloc (by simp) _
  have HB : Hid (Below w.heap.size w W) := hB
  have hWs : W.heap.size = w.heap.size + 2 := by rw [← hW]; simp
  have hx0 : W.heap[w.heap.size]? = some (.cells #[.int .u8 er, .slice da D dca, .slice ao L ca, .slice la M lca, .int .i64 n] 38 (0, 0)) := by
    rw [← hW, Below.heap_alloc _ _ _ (by simp)]; exact heap_alloc_new w _
  have hx1 : W.heap[w.heap.size + 1]? = some (.cells #[.int .u8 er, .slice db D dcb, .slice bo L cb, .slice lb M lcb, .int .i64 n] 38 (0, 0)) := by
    have h := heap_alloc_new (w.alloc (.cells #[.int .u8 er, .slice da D dca, .slice ao L ca, .slice la M lca, .int .i64 n] 38)) (.cells #[.int .u8 er, .slice db D dcb, .slice bo L cb, .slice lb M lcb, .int .i64 n] 38)
    rw [hW] at h
    simpa using h
  have p0 : W.cell? ⟨w.heap.size, 0, none⟩ = some (.int .u8 er) := by simp [World.cell?, hx0]
  have p1 : W.cell? ⟨w.heap.size, 1, none⟩ = some (.slice da D dca) := by simp [World.cell?, hx0]
  have p2 : W.cell? ⟨w.heap.size, 2, none⟩ = some (.slice ao L ca) := by simp [World.cell?, hx0]
  have p3 : W.cell? ⟨w.heap.size, 3, none⟩ = some (.slice la M lca) := by simp [World.cell?, hx0]
  have p4 : W.cell? ⟨w.heap.size, 4, none⟩ = some (.int .i64 n) := by simp [World.cell?, hx0]
  have q0 : W.cell? ⟨w.heap.size + 1, 0, none⟩ = some (.int .u8 er) := by simp [World.cell?, hx1]
  have q1 : W.cell? ⟨w.heap.size + 1, 1, none⟩ = some (.slice db D dcb) := by simp [World.cell?, hx1]
  have q2 : W.cell? ⟨w.heap.size + 1, 2, none⟩ = some (.slice bo L cb) := by simp [World.cell?, hx1]
  have q3 : W.cell? ⟨w.heap.size + 1, 3, none⟩ = some (.slice lb M lcb) := by simp [World.cell?, hx1]
  have q4 : W.cell? ⟨w.heap.size + 1, 4, none⟩ = some (.int .i64 n) := by simp [World.cell?, hx1]
  have HSB : Hid _ := sameBytes_any da db D D dca dcb df dg W (hda.keeps (Below.keeps hB)) (hdb.keeps (Below.keeps hB)) (by omega) (by omega)
  rw [decide_eq_true (show D = D ∧ ∀ i : Nat, i < D → df i = dg i from ⟨rfl, hde⟩)] at HSB
  have HS : Hid (OSdRow w ao ss) := hS
  have HT : Hid (OSdRow w bo ts) := hT
  have Hl : Hid (ss.length = L) := hl
  have Hl2 : Hid (ts.length = L) := hl2
  have HSa : Hid (∀ i, i < L → (ss.getD i Sd.zero).same (ts.getD i Sd.zero)) := hs
  have HPl : Hid (∀ i, i < L → (ss.getD i Sd.zero).pl ≤ 140737488355328) := hp
  have HLa : Hid (ZRow w la M lf) := hla
  have HLb : Hid (ZRow w lb M lg) := hlb
  have HLe : Hid (∀ i, i < M → lf i = lg i) := hle
  have hLL : ((L : Int) != (L : Int)) = false := by simp
  have hMM : ((M : Int) != (M : Int)) = false := by simp
  have hEE : ((er : Int) != (er : Int)) = false := by simp
  have hnn : (n != n) = false := by simp
  clear hS hT hl hl2 hs hp hx0 hx1 hB hda hdb hde hla hlb hle
  go_enter Tryd.func15, Tryd.ntmps15
  go_wp2_with fail
  refine Calls.mono HSB.out ?_
  rintro r w' ⟨rfl, q, hw⟩
  have hbq : Below W.heap.size W (W.drewN q) := drewN_below _ _ _
  obtain ⟨W2, hW2⟩ : ∃ W2, W.drewN q = W2 := ⟨_, rfl⟩
  rw [hW2] at hw hbq
  have hw := hw.symm
  subst hw
  have HB2 : Hid (Below W.heap.size W W2) := hbq
  have kp := Below.keeps hbq
  have a2 := kp _ _ _ p2
  have a3 := kp _ _ _ p3
  have b2 := kp _ _ _ q2
  have b3 := kp _ _ _ q3
  clear kp hbq hW2 HSB hW p0 p1 p2 p3 p4 q0 q1 q2 q3 q4
  go_wp2
  go_loopw [39] (fun i wr => ∃ j : Nat, j ≤ L ∧ i = .int .i64 j ∧ Below W2.heap.size W2 wr) (fun i _ => L - (intOf i).toNat)
  case atStart => exact ⟨0, Nat.zero_le _, rfl, Below.refl _ _⟩
  case round =>
    obtain ⟨j, hj, rfl, hbr⟩ := hrel
    have kr := Below.keeps hbr
    have c2 := kr _ _ _ a2
    have c3 := kr _ _ _ a3
    have d2 := kr _ _ _ b2
    have d3 := kr _ _ _ b3
    have HBr : Hid (Below W2.heap.size W2 wr) := hbr
    by_cases hlt : j < L
    · have hlt' : (j : Int) < (L : Int) := by omega
      have kw : Keeps w wr := ((Below.keeps HB.out).trans (Below.keeps HB2.out)).trans kr
      obtain ⟨sb, sq, rfl, hr⟩ := (HS.out.keeps kw).row (by rw [Hl.out]; omega)
      obtain ⟨tb, tq, rfl, hr2⟩ := (HT.out.keeps kw).row (by rw [Hl2.out]; omega)
      obtain ⟨r0, r1, r2, r3⟩ := hr j (by rw [Hl.out]; exact hlt)
      obtain ⟨u0, u1, u2, u3⟩ := hr2 j (by rw [Hl2.out]; exact hlt)
      have e1 : ss[j]'(by rw [Hl.out]; exact hlt) = ss.getD j Sd.zero := (getD_lt (by rw [Hl.out]; exact hlt)).symm
      have e2 : ts[j]'(by rw [Hl2.out]; exact hlt) = ts.getD j Sd.zero := (getD_lt (by rw [Hl2.out]; exact hlt)).symm
      rw [e1] at r0 r1 r2 r3
      rw [e2] at u0 u1 u2 u3
      have hsm := HSa.out j hlt
      have hpl := HPl.out j hlt
      have hokx := (HS.out.ok _ (getD_mem (d := Sd.zero) (show j < ss.length by rw [Hl.out]; exact hlt))).keeps kw
      have hoky := (HT.out.ok _ (getD_mem (d := Sd.zero) (show j < ts.length by rw [Hl2.out]; exact hlt))).keeps kw
      obtain ⟨x, hx⟩ : ∃ x, ss.getD j Sd.zero = x := ⟨_, rfl⟩
      obtain ⟨y, hy⟩ : ∃ y, ts.getD j Sd.zero = y := ⟨_, rfl⟩
      rw [hx] at r0 r1 r2 r3 hsm hokx hpl
      rw [hy] at u0 u1 u2 u3 hsm hoky
      have HSm : Hid (∀ V, (V = wr ∨ V = wr.drew) → Calls Tryd.prog 29 #[.agg #[.int .u8 x.g, .int .i64 x.ix, .int .i64 x.ol, .slice x.pa x.pl x.pc], .agg #[.int .u8 y.g, .int .i64 y.ix, .int .i64 y.ol, .slice y.pa y.pl y.pc]] V fun e w' => e = .returned (.bool true) ∧ Below wr.heap.size wr w') := by
        intro V hV
        have hb : Below wr.heap.size wr V := by rcases hV with rfl | rfl; exact Below.refl _ _; exact (Below.refl _ _).drew
        have hszV : V.heap.size = wr.heap.size := by rcases hV with rfl | rfl <;> rfl
        refine (same_any x y V (hokx.keeps (Below.keeps hb)) (hoky.keeps (Below.keeps hb)) hpl (by rw [← hsm.2.2.2.1]; exact hpl)).mono ?_
        rintro e w' ⟨h1, h2⟩
        exact ⟨h1.trans (congrArg (fun b => Ending.returned (.bool b)) (same_true' hsm)), hb.trans (by rw [← hszV]; exact h2)⟩
      clear hr hr2 e1 e2 hsm hpl hokx hoky hx hy kw kr hbr
      go_wp2
      go_cut [53] from 40 to 54 (fun bv wx => bv = .bool false ∧ Below wr.heap.size wr wx)
      case first =>
        go_region_with (go_at_call 29; refine (HSm.out _ (by first | exact .inl rfl | exact .inr rfl)).mono ?_; rintro r w9 ⟨rfl, h1⟩; have H1 : Hid (Below wr.heap.size wr w9) := h1; clear h1)
        all_goals
          go_wp2
          go_meet
          exact ⟨rfl, H1.out⟩
      case rest =>
        obtain ⟨rfl, hbx⟩ := hcut
        have HF : Hid (Below W2.heap.size W2 wc) := HBr.out.trans (hbx.mono HBr.out.size)
        clear hbx
        go_wp2
        go_roundw
        case rel => exact ⟨j + 1, by omega, by go_num, HF.out⟩
        case measure => simp [intOf]; omega
    · have hlt' : ¬ (j : Int) < (L : Int) := by omega
      clear kr hbr
      obtain ⟨w3, hw3⟩ : ∃ x, x = wr := ⟨_, rfl⟩
      subst hw3
      go_wp2
      go_loopw [65] (fun i wq => ∃ z : Nat, z ≤ M ∧ i = .int .i64 z ∧ Below w3.heap.size w3 wq) (fun i _ => M - (intOf i).toNat)
      case atStart => exact ⟨0, Nat.zero_le _, rfl, Below.refl _ _⟩
      case round =>
        obtain ⟨z, hz, rfl, hbq⟩ := hrel
        have kq := Below.keeps hbq
        have c3 := kq _ _ _ c3
        have d3 := kq _ _ _ d3
        have HBq : Hid (Below W2.heap.size W2 wr) := HBr.out.trans (hbq.mono HBr.out.size)
        by_cases hzM : z < M
        · have hzM' : (z : Int) < (M : Int) := by omega
          have kw : Keeps w wr := ((Below.keeps HB.out).trans (Below.keeps HB2.out)).trans (Below.keeps HBq.out)
          obtain ⟨b1, o1, rfl, hc1⟩ := (HLa.out.keeps kw) (by omega)
          obtain ⟨b2, o2, rfl, hc2⟩ := (HLb.out.keeps kw) (by omega)
          have x1 := hc1 z hzM
          have x2 := hc2 z hzM
          rw [← HLe.out z hzM] at x2
          obtain ⟨zv, hzv⟩ : ∃ zv, lf z = zv := ⟨_, rfl⟩
          rw [hzv] at x1 x2
          have hzz : (zv != zv) = false := by simp
          have HBd : Hid (∀ q, Below w3.heap.size w3 (wr.drewN q)) := fun q => hbq.trans (drewN_below _ _ _)
          clear hbq kq kw hc1 hc2 hzv
          go_wp2
          go_quiet (fail)
          go_wp2
          go_roundw
          case rel => exact ⟨z + 1, by omega, by go_num, HBd.out _⟩
          case measure => simp [intOf]; omega
        · have hzM' : ¬ (z : Int) < (M : Int) := by omega
          clear hbq kq
          go_wp2
          go_ret
          exact ⟨rfl, HB.out.trans ((HB2.out.trans (HBq.out.mono HB2.out.size)).mono (by omega))⟩
end Go.Proofs.Qxb6500697aDoor
