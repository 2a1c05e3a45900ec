/- ledger: Open of a file that is there; of a disk that is out -/
import Derived.Test.YtgbpgmbnihfkkaaLOne
import Derived.Test.YtgbpgmbnihfkkaaLAdd
set_option linter.unusedSimpArgs false
set_option linter.unusedVariables false
namespace Go.Proofs.Ytgbpgmbnihfkkaa
open Go.RowKit
set_option linter.unusedSectionVars false
theorem DSig.zi {w w' : World} {d mb base : Nat} {g : Sig} (h : @DSig ⟨fun _ => False⟩ w d mb base g) (hb : Below w.heap.size w w') : @DSig (Zi w.heap.size w'.heap.size) w' d mb base g :=
  DSig.rezone (Z1 := ⟨fun _ => False⟩) (Z2 := Zi w.heap.size w'.heap.size) h hb.size (fun j hj _ => hb.block j hj) (fun j c t fr hj _ => hb.block j (heap_lt hj)) (fun j es c hj => hb.block j (heap_lt hj)) (fun k hk => ⟨.inr hk.1, hk.2⟩)
/-- a slice of n slices that each own some bytes, all of them in blocks of [B, S). -/
def Loose (w : World) (B S n : Nat) (v : Value) : Prop :=
  ∃ vs : List Value, vs.length = n ∧ w.ownsRow B 30 1 v n vs ∧ (∀ g, v.ownBlock = some g → g < S) ∧
    ∀ i, i < n → ∃ u l, vs[i]? = some u ∧ OwnB w B u l ∧ (∀ g, u.ownBlock = some g → g < S)
theorem Lists.loose {w : World} {B : Nat} {v : Value} {L : List (List UInt8)} (h : Lists w B v L) : Loose w B w.heap.size L.length v := by
  obtain ⟨vs, h1, ⟨h2, _⟩, h3⟩ := h
  refine ⟨vs, h1, h2, fun g hg => (h2.lt g hg).2, fun i hi => ?_⟩
  obtain ⟨u, hu, ho⟩ := h3 i hi
  exact ⟨u, _, hu, ho, fun g hg => (ho.1.lt g hg).2⟩
theorem Loose.later {w w' : World} {B S n : Nat} {v : Value} (h : Loose w B S n v) (hb : Below w.heap.size w w') : Loose w' B S n v := by
  obtain ⟨vs, h1, h2, h2b, h3⟩ := h
  refine ⟨vs, h1, ownsRow_later h2 hb, h2b, fun i hi => ?_⟩
  obtain ⟨u, l, hu, ho, hs⟩ := h3 i hi
  exact ⟨u, l, hu, ho.later hb, hs⟩
theorem Loose.nil (w : World) (B S : Nat) : Loose w B S 0 (.slice none 0 0) := ⟨[], rfl, World.ownsRow_nil _ _ _ _, fun g hg => by simp [Value.ownBlock] at hg, fun i hi => absurd hi (by omega)⟩
theorem Loose.fd {w w' : World} {base B S n : Nat} {v : Value} (h : Loose w B S n v) (k : FD base none w w') : Loose w' B S n v := by
  have key : ∀ {e s n : Nat} {u : Value} {xs : List Value}, w.ownsRow B e s u n xs → e = 30 ∨ e = 5 → ∀ g, u.ownBlock = some g → w'.heap[g]? = w.heap[g]? := by
    intro e s n u xs hu he g hg
    rcases hu.2 with ⟨rfl, _⟩ | ⟨g', cap, cur, rfl, _, hg', _⟩
    · simp [Value.ownBlock] at hg
    · simp only [Value.ownBlock, Option.some.injEq] at hg
      subst hg
      exact (k.cells _ _ _ _ hg' (by rcases he with rfl | rfl <;> unfold TD <;> decide) (by simp)).trans hg'.symm
  obtain ⟨vs, h1, h2, h2b, h3⟩ := h
  refine ⟨vs, h1, ownsRow_move h2 (key h2 (.inl rfl)), h2b, fun i hi => ?_⟩
  obtain ⟨u, l, hu, ho, hs⟩ := h3 i hi
  exact ⟨u, l, hu, ho.move (key ho.1 (.inr rfl)), hs⟩
set_option maxRecDepth 100000 in
set_option maxHeartbeats 4000000 in
/-- Open where Read tells er and bs, Scan recs, sz and rest, the steps er, c1 and c2. -/
theorem Open_scan (nm : ByteArray) (base d mb : Nat) (g g2 g3 : Sig) (er c1 c2 : Int) (bs : List UInt8) (recs : List (List UInt8)) (sz rest : Nat) (o : Int × Option LSig × List (List UInt8) × Sig) (w : World) (hbs : base ≤ w.heap.size) (hd : @DSig ⟨fun _ => False⟩ w d mb base g) (her : er ≠ 6) (hr2 : rest ≤ 2)
    (hR : ∀ w', Below w.heap.size w w' → Calls Try.prog 12 #[.pointer (some ⟨d, 0, none⟩), .string nm] w' fun e w2 => ∃ v, e = .returned (.tuple #[v, .int .i64 er]) ∧ OwnB w2 w'.heap.size v bs ∧ Below w'.heap.size w' w2)
    (hlen : bs.length ≤ 4294967296) (hscan : Fr.scanF bs = (recs, sz, rest))
    (h2 : ∀ (Z : Zone) (N : Nat) (w' : World), base ≤ w'.heap.size → w'.heap[N]? = some (.cells #[.pointer (some ⟨d, 0, none⟩)] 22 (0, 0)) → w'.heap[N + 1]? = some (.cells #[.string nm] 9 (0, 0)) → w'.heap[N + 1 + 1]? = some (.cells #[.int .i64 (sz : Int)] 3 (0, 0)) → w'.heap[N + 1 + 1 + 1]? = some (.cells #[.int .i64 (rest : Int)] 3 (0, 0)) → @DSig Z w' d mb base g →
      Calls Try.prog 31 #[.pointer (some ⟨N + 1 + 1 + 1, 0, none⟩), .pointer (some ⟨N, 0, none⟩), .pointer (some ⟨N + 1, 0, none⟩), .pointer (some ⟨N + 1 + 1, 0, none⟩)] w' fun e w2 => e = .returned (.int .i64 c1) ∧ @DSig Z w2 d mb base g2 ∧ FD base none w' w2)
    (h3 : ∀ (Z : Zone) (N : Nat) (w' : World), base ≤ w'.heap.size → w'.heap[N]? = some (.cells #[.pointer (some ⟨d, 0, none⟩)] 22 (0, 0)) → w'.heap[N + 1]? = some (.cells #[.string nm] 9 (0, 0)) → @DSig Z w' d mb base g2 →
      Calls Try.prog 33 #[.pointer (some ⟨N, 0, none⟩), .pointer (some ⟨N + 1, 0, none⟩)] w' fun e w2 => e = .returned (.int .i64 c2) ∧ @DSig Z w2 d mb base g3 ∧ FD base none w' w2)
    (ho : o = if er ≠ 0 then (er, none, [], g) else if c1 ≠ 0 then (c1, none, [], g2) else if c2 ≠ 0 then (c2, none, [], g3) else (0, some ⟨nm, (recs.length : Nat), (sz : Nat), false⟩, recs, g3)) :
    Calls Try.prog 11 #[.pointer (some ⟨d, 0, none⟩), .string nm] w fun e w' => ∃ hi, w.heap.size ≤ hi ∧ hi ≤ w'.heap.size ∧ OpenR (Zi w.heap.size hi) o d mb base w e w' ∧ (∀ lv v z, e = .returned (.tuple #[lv, v, z]) → Loose w' w.heap.size hi o.2.2.1.length v) := by
  have hmf : ∀ (fn : Fn) (first cap : Array Value) (w : World), (Instr.makeFunc fn first cap).run Try.prog w = .ok (.func fn first cap) w := fun _ _ _ _ => rfl
  have HD := Lib.hid hd
  have HSC := Lib.hid hscan
  have HRD := Lib.hid hR
  have HS2 := Lib.hid h2
  have HS3 := Lib.hid h3
  have HO := Lib.hid ho
  have HER := Lib.hid her
  have hef : (er == 6) = false := by simpa using her
  have HB := Lib.hid hbs
  clear hd hscan hR h2 h3 ho her
  go_enter Try.func11, Try.ntmps11
  go_wp2_with fail
  generalize hw1 : (((w.alloc (.cells #[.pointer (some ⟨d, 0, none⟩)] 22)).alloc (.cells #[.string nm] 9)).alloc (.cells #[.int .i64 0] 3)).alloc (.cells #[.int .i64 0] 3) = w1
  obtain ⟨b0, b1, b2, b3, hB1, hS1⟩ := open_boxes _ nm w w1 hw1
  clear hw1
  obtain ⟨N, hN⟩ : ∃ N, N = w.heap.size := ⟨_, rfl⟩
  rw [← hN] at b0 b1 b2 b3 hS1 hbs ⊢
  have HX := Lib.hid (And.intro b0 (And.intro b1 (And.intro b2 (And.intro b3 (And.intro hB1 hN)))))
  refine (HRD.out w1 hB1).mono ?_
  clear b0 b1 b2 b3 hB1 hN
  rintro e w2 ⟨v, rfl, hown, hb2⟩
  obtain ⟨va, vc, hv, hvb, _⟩ := hown.bytes
  subst hv
  have HVB := Lib.hid hvb
  have HB2 := Lib.hid hb2
  have HLEN := Lib.hid hlen
  clear hown hb2 hvb hlen
  go_wp2_with fail
  refine (Scan_any va bs.length vc bs _ (HVB.out.later (((Below.refl _ _).alloc (Nat.le_refl _) _).alloc (by simp) _)) HLEN.out).mono ?_
  rintro e w3 ⟨lv, rfl, hls, hb3⟩
  rw [HSC.out] at hls ⊢
  have h23 : Below w2.heap.size w2 w3 := Below.trans (((Below.refl _ _).alloc (Nat.le_refl _) _).alloc (by simp) _) (hb3.mono (by simp <;> omega))
  have hs2 : N + 4 ≤ w2.heap.size := by have := HB2.out.size; omega
  have hx2 : w3.cell? ⟨N + 1 + 1, 0, none⟩ = some (.int .i64 0) := cell_of_row _ _ _ _ _ _ ((h23.block _ (by omega)).trans ((HB2.out.block _ (by omega)).trans HX.out.2.2.1))
  have hx3 : w3.cell? ⟨N + 1 + 1 + 1, 0, none⟩ = some (.int .i64 0) := cell_of_row _ _ _ _ _ _ ((h23.block _ (by omega)).trans ((HB2.out.block _ (by omega)).trans HX.out.2.2.2.1))
  have hz2 : w3.frozen? ⟨N + 1 + 1, 0, none⟩ = false := frozen_of_row _ _ _ _ _ ((h23.block _ (by omega)).trans ((HB2.out.block _ (by omega)).trans HX.out.2.2.1))
  have hz3 : w3.frozen? ⟨N + 1 + 1 + 1, 0, none⟩ = false := frozen_of_row _ _ _ _ _ ((h23.block _ (by omega)).trans ((HB2.out.block _ (by omega)).trans HX.out.2.2.2.1))
  obtain ⟨la, lc, hlv, hll⟩ := hls.reads
  subst hlv
  have HLS := Lib.hid hls
  have HB3 := Lib.hid hb3
  have H23 := Lib.hid h23
  clear hls hb3 h23 hll
  go_wp2_with fail
  obtain ⟨F, hF⟩ : ∃ F, F = w2.heap.size + 1 := ⟨_, rfl⟩
  obtain ⟨E, hE⟩ : ∃ E, E = w2.heap.size := ⟨_, rfl⟩
  obtain ⟨G, hG⟩ : ∃ G, G = w3.heap.size := ⟨_, rfl⟩
  rw [← hF, ← hE, ← hG]
  generalize hX : (World.alloc (World.setCell (World.setCell w3 _ _) _ _) _) = X
  obtain ⟨hmem, hbX, hkX⟩ := open_mem2 N E F (some ⟨d, 0, none⟩) er sz rest nm w2 w3 X hE hF hs2 ((HB2.out.block _ (by omega)).trans HX.out.1) ((HB2.out.block _ (by omega)).trans HX.out.2.1) ((HB2.out.block _ (by omega)).trans HX.out.2.2.1) ((HB2.out.block _ (by omega)).trans HX.out.2.2.2.1) HB3.out G hG hX
  have hbw : Below w.heap.size w X := HX.out.2.2.2.2.1.trans (by have hN := HX.out.2.2.2.2.2; rw [← hN]; exact (HB2.out.mono (by omega)).trans hbX)
  have hlX : Lists X w.heap.size (.slice la recs.length lc) recs := by
    refine (HLS.out.move fun g c t hg ht => ?_).base ?_
    · refine hkX g ?_ ?_ (heap_lt hg)
      · rintro rfl
        rw [(H23.out.block _ (by omega)).trans ((HB2.out.block _ (by omega)).trans HX.out.2.2.1)] at hg
        cases hg
        rcases ht with h | h <;> cases h
      · rintro rfl
        rw [(H23.out.block _ (by omega)).trans ((HB2.out.block _ (by omega)).trans HX.out.2.2.2.1)] at hg
        cases hg
        rcases ht with h | h <;> cases h
    · have := HB2.out.size
      have hN := HX.out.2.2.2.2.2
      simp
      omega
  have hloose := hlX.loose
  have HXX := Lib.hid (And.intro hmem (And.intro hbw (And.intro hlX (And.intro (DSig.zi HD.out hbw) hloose))))
  clear hmem hbX hkX hbw hlX hloose hX hx2 hx3 hz2 hz3 hE hF hG HB2 HB3 H23 HVB HLS
  have en1 := enters_1
  have en2 := enters_2
  have en3 := enters_3
  go_loopw [37] (fun i wr => ∃ j : Nat, j ≤ 3 ∧ i = .int .i64 j ∧ Hid (OpenMem wr N E F G (some ⟨d, 0, none⟩) nm er false sz rest) ∧ Hid (FD base none w wr) ∧ Hid (Lists wr w.heap.size (.slice la recs.length lc) recs ∧ Loose wr w.heap.size X.heap.size recs.length (.slice la recs.length lc) ∧ X.heap.size ≤ wr.heap.size) ∧ Hid ((j = 0 ∧ @DSig (Zi w.heap.size X.heap.size) wr d mb base g) ∨ (j = 1 ∧ er = 0 ∧ @DSig (Zi w.heap.size X.heap.size) wr d mb base g) ∨ (j = 2 ∧ er = 0 ∧ c1 = 0 ∧ @DSig (Zi w.heap.size X.heap.size) wr d mb base g2) ∨ (j = 3 ∧ er = 0 ∧ c1 = 0 ∧ c2 = 0 ∧ @DSig (Zi w.heap.size X.heap.size) wr d mb base g3))) (fun i _ => 3 - (intOf i).toNat)
  case atStart => exact ⟨0, by omega, rfl, Lib.hid HXX.out.1, Lib.hid (FD.of_below HXX.out.2.1 (by have := HX.out.2.2.2.2.2; have := HB.out; omega)), Lib.hid ⟨HXX.out.2.2.1, HXX.out.2.2.2.2, Nat.le_refl _⟩, Lib.hid (.inl ⟨rfl, HXX.out.2.2.2.1⟩)⟩
  case round =>
    obtain ⟨j, hj, rfl, hm, hF, hLL, hD⟩ := hrel
    obtain ⟨f0, f1, f2⟩ := hm.out.funcs
    have hj4 : j = 0 ∨ j = 1 ∨ j = 2 ∨ j = 3 := by omega
    have hbr : base ≤ wr.heap.size := Nat.le_trans (by have := HX.out.2.2.2.2.2; have := HB.out; omega) hF.out.below.size
    have hws : w.heap.size ≤ X.heap.size := HXX.out.2.1.size
    have HBR := Lib.hid (And.intro hbr hws)
    clear hbr hws
    rcases hj4 with rfl | rfl | rfl | rfl
    · have hdr : @DSig (Zi w.heap.size X.heap.size) wr d mb base g := by
        rcases hD.out with ⟨_, h⟩ | ⟨h, _⟩ | ⟨h, _⟩ | ⟨h, _⟩
        · exact h
        all_goals omega
      have HDR := Lib.hid hdr
      clear hdr
      go_wp2_with fail
      refine (step1_old N E F er wr hm.out.err hm.out.fresh).mono ?_
      rintro e w2 ⟨rfl, rfl⟩
      by_cases hc0 : er = 0
      · have HC0 := Lib.hid hc0
        have hcb : (er == 0) = true := by simpa using hc0
        have hcb2 : (er != 0) = false := by simpa using hc0
        clear hc0
        go_wp2_with fail
        go_roundw
        case rel => exact ⟨1, by omega, rfl, hm, hF, hLL, Lib.hid (.inr (.inl ⟨rfl, HC0.out, HDR.out⟩))⟩
        case measure => simp [intOf]
      · have hcb : (er == 0) = false := by simpa using hc0
        have hcb2 : (er != 0) = true := by simpa using hc0
        have HC0 := Lib.hid hc0
        clear hc0
        go_wp2_with fail
        go_ret3
        rw [HO.out, if_pos HC0.out]
        refine ⟨_, HBR.out.2, hLL.out.2.2, ⟨_, _, rfl, HDR.out, Lists.nil _ _, hF.out, .inl (by simp)⟩, fun lv v z e => ?_⟩
        obtain rfl := open_slice_eq e
        exact Loose.nil _ _ _
    · have hdr : er = 0 ∧ @DSig (Zi w.heap.size X.heap.size) wr d mb base g := by
        rcases hD.out with ⟨h, _⟩ | ⟨_, h⟩ | ⟨h, _⟩ | ⟨h, _⟩
        · omega
        · exact h
        all_goals omega
      have HDR := Lib.hid hdr
      clear hdr
      go_wp2_with fail
      refine (HS2.out _ N wr HBR.out.1 hm.out.box hm.out.name hm.out.size hm.out.rest HDR.out.2).mono ?_
      rintro e w2 ⟨rfl, hd2, hf2⟩
      have HREL := Lib.hid (And.intro (hm.out.fd hf2) (And.intro (hF.out.trans hf2) (And.intro hd2 (And.intro (hf2.lists hLL.out.1) (And.intro (hLL.out.2.1.fd hf2) (Nat.le_trans hLL.out.2.2 hf2.below.size))))))
      clear hd2 hf2
      by_cases hc1 : c1 = 0
      · have HC1 := Lib.hid hc1
        have hcb : (c1 == 0) = true := by simpa using hc1
        have hcb2 : (c1 != 0) = false := by simpa using hc1
        clear hc1
        go_wp2_with fail
        go_roundw
        case rel => exact ⟨2, by omega, rfl, Lib.hid HREL.out.1, Lib.hid HREL.out.2.1, Lib.hid HREL.out.2.2.2, Lib.hid (.inr (.inr (.inl ⟨rfl, HDR.out.1, HC1.out, HREL.out.2.2.1⟩)))⟩
        case measure => simp [intOf]
      · have hcb : (c1 == 0) = false := by simpa using hc1
        have hcb2 : (c1 != 0) = true := by simpa using hc1
        have HC1 := Lib.hid hc1
        clear hc1
        go_wp2_with fail
        go_ret3
        rw [HO.out, if_neg (by have := HDR.out.1; omega), if_pos HC1.out]
        refine ⟨_, HBR.out.2, HREL.out.2.2.2.2.2, ⟨_, _, rfl, HREL.out.2.2.1, Lists.nil _ _, HREL.out.2.1, .inl (by simp)⟩, fun lv v z e => ?_⟩
        obtain rfl := open_slice_eq e
        exact Loose.nil _ _ _
    · have hdr : er = 0 ∧ c1 = 0 ∧ @DSig (Zi w.heap.size X.heap.size) wr d mb base g2 := by
        rcases hD.out with ⟨h, _⟩ | ⟨h, _⟩ | ⟨_, h⟩ | ⟨h, _⟩
        · omega
        · omega
        · exact h
        · omega
      have HDR := Lib.hid hdr
      clear hdr
      go_wp2_with fail
      refine (HS3.out _ N wr HBR.out.1 hm.out.box hm.out.name HDR.out.2.2).mono ?_
      rintro e w2 ⟨rfl, hd2, hf2⟩
      have HREL := Lib.hid (And.intro (hm.out.fd hf2) (And.intro (hF.out.trans hf2) (And.intro hd2 (And.intro (hf2.lists hLL.out.1) (And.intro (hLL.out.2.1.fd hf2) (Nat.le_trans hLL.out.2.2 hf2.below.size))))))
      clear hd2 hf2
      by_cases hc2 : c2 = 0
      · have HC2 := Lib.hid hc2
        have hcb : (c2 == 0) = true := by simpa using hc2
        have hcb2 : (c2 != 0) = false := by simpa using hc2
        clear hc2
        go_wp2_with fail
        go_roundw
        case rel => exact ⟨3, by omega, rfl, Lib.hid HREL.out.1, Lib.hid HREL.out.2.1, Lib.hid HREL.out.2.2.2, Lib.hid (.inr (.inr (.inr ⟨rfl, HDR.out.1, HDR.out.2.1, HC2.out, HREL.out.2.2.1⟩)))⟩
        case measure => simp [intOf]
      · have hcb : (c2 == 0) = false := by simpa using hc2
        have hcb2 : (c2 != 0) = true := by simpa using hc2
        have HC2 := Lib.hid hc2
        clear hc2
        go_wp2_with fail
        go_ret3
        rw [HO.out, if_neg (by have := HDR.out.1; omega), if_neg (by have := HDR.out.2.1; omega), if_pos HC2.out]
        refine ⟨_, HBR.out.2, HREL.out.2.2.2.2.2, ⟨_, _, rfl, HREL.out.2.2.1, Lists.nil _ _, HREL.out.2.1, .inl (by simp)⟩, fun lv v z e => ?_⟩
        obtain rfl := open_slice_eq e
        exact Loose.nil _ _ _
    · have hdr : er = 0 ∧ c1 = 0 ∧ c2 = 0 ∧ @DSig (Zi w.heap.size X.heap.size) wr d mb base g3 := by
        rcases hD.out with ⟨h, _⟩ | ⟨h, _⟩ | ⟨h, _⟩ | ⟨_, h⟩
        · omega
        · omega
        · omega
        · exact h
      have HDR := Lib.hid hdr
      have k0 : wr.cell? ⟨N, 0, none⟩ = some (.pointer (some ⟨d, 0, none⟩)) := cell_of_row _ _ _ _ _ _ hm.out.box
      have k1 : wr.cell? ⟨N + 1, 0, none⟩ = some (.string nm) := cell_of_row _ _ _ _ _ _ hm.out.name
      have k2 : wr.cell? ⟨N + 1 + 1, 0, none⟩ = some (.int .i64 sz) := cell_of_row _ _ _ _ _ _ hm.out.size
      clear hdr
      go_wp2_with fail
      go_ret3
      rw [HO.out, if_neg (by have := HDR.out.1; omega), if_neg (by have := HDR.out.2.1; omega), if_neg (by have := HDR.out.2.2.1; omega)]
      have hal := (Below.refl wr.heap.size wr).alloc (Nat.le_refl _) (.cells #[.pointer (some ⟨d, 0, none⟩), .string nm, .int .i64 (recs.length : Nat), .int .i64 sz, .bool false] 50)
      refine ⟨_, HBR.out.2, Nat.le_trans hLL.out.2.2 hal.size, ⟨_, _, rfl, @DSig.later (Zi w.heap.size X.heap.size) _ _ _ _ _ _ HDR.out.2.2.2 hal, hLL.out.1.later hal, hF.out.trans (FD.of_below hal HBR.out.1), .inr ⟨_, wr.heap.size, rfl, rfl, hF.out.below.size, heap_alloc_new _ _⟩⟩, fun lv v z e => ?_⟩
      obtain rfl := open_slice_eq e
      exact hLL.out.2.1.later hal
end Go.Proofs.Ytgbpgmbnihfkkaa

/- ledger: Open and Add, each against what it makes of what both hold -/
set_option linter.unusedSimpArgs false
set_option linter.unusedVariables false
namespace Go.Proofs.Ytgbpgmbnihfkkaa
open Go.RowKit
set_option linter.unusedSectionVars false
theorem Add_S [Zone] (base d mb l q k : Nat) (L : LSig) (g : Sig) (ao : Option Addr) (m cap : Nat) (B : List UInt8) (w : World) (hss : L.nm.size ≤ 1099511627776) (hbs : base ≤ w.heap.size) (hbl : base ≤ l) (hl : LedRow w l d L.nm L.n L.size L.br) (hd : DSig w d mb base g) (hB : IsBytes w ao m cap B)
    (hlim : Lim q k g) (hLl : LLim q L) (hq : q + m + 13 ≤ 4294967296) (hk : k + 2 ≤ 1000000) :
    Calls Try.prog 6 #[.pointer (some ⟨l, 0, none⟩), .slice ao m cap] w fun e w' => AddR (addG B L g) d mb base l w e w' := by
  have hBl := hB.1
  by_cases hbr : L.br = true
  · exact Add_br base d mb l L g ao m cap B w hbs hl hd hbr
  have hbr : L.br = false := by simpa using hbr
  by_cases hm : 65536 < m
  · exact Add_long base d mb l L g ao m cap B w hbs hl hd hbr hBl hm (by omega)
  obtain ⟨c1, g1, h1⟩ : ∃ c g1, appG L.nm (Fr.putF B) g = (c, g1) := ⟨_, _, rfl⟩
  obtain ⟨c2, g2, h2⟩ : ∃ c g2, syncG L.nm g1 = (c, g2) := ⟨_, _, rfl⟩
  by_cases hc3 : c1 = 3
  · exact Add_full base d mb l q k L g g1 g2 c1 c2 ao m cap B w hss hbs hbl hl hd hB hbr hlim hLl hq hk (by omega) h1 h2 hc3
  by_cases hc0 : c1 = 0
  · by_cases hc2 : c2 = 0
    · exact Add_ok base d mb l q k L g g1 g2 c1 c2 ao m cap B w hss hbs hbl hl hd hB hbr hlim hLl hq hk (by omega) h1 h2 hc0 hc2
    · exact Add_sfail base d mb l q k L g g1 g2 c1 c2 ao m cap B w hss hbs hbl hl hd hB hbr hlim hLl hq hk (by omega) h1 h2 hc0 hc2
  · exact Add_fail base d mb l q k L g g1 g2 c1 c2 ao m cap B w hss hbs hbl hl hd hB hbr hlim hLl hq hk (by omega) h1 h2 hc3 hc0
/-- Open, and the marks between which its records lie. -/
def OpenL (o : Int × Option LSig × List (List UInt8) × Sig) (d mb base : Nat) (w : World) (e : Ending) (w' : World) : Prop :=
  ∃ hi, w.heap.size ≤ hi ∧ hi ≤ w'.heap.size ∧ OpenR (Zi w.heap.size hi) o d mb base w e w' ∧ (∀ lv v z, e = .returned (.tuple #[lv, v, z]) → Loose w' w.heap.size hi o.2.2.1.length v)
theorem Open_S (nm : ByteArray) (hss : nm.size ≤ 1099511627776) (base d mb q k : Nat) (g : Sig) (w : World) (hbs : base ≤ w.heap.size) (hd : @DSig ⟨fun _ => False⟩ w d mb base g) (hl : Lim q k g) (hq : q + 1 ≤ 4294967296) (hk : k + 2 ≤ 1000000) :
    Calls Try.prog 11 #[.pointer (some ⟨d, 0, none⟩), .string nm] w fun e w' => OpenL (openG nm g) d mb base w e w' := by
  by_cases h6 : (readG nm g).1 = 6
  · refine (@Open_fresh ⟨fun _ => False⟩ nm hss base d mb q k g w hbs hd hl hq hk h6).mono ?_
    rintro e w' ⟨⟨lv, v, rfl, h1, h2, h3, h4⟩, h5⟩
    obtain rfl := h5 _ _ _ rfl
    have hrec : (openG nm g).2.2.1 = [] := by
      obtain ⟨c0, g1, e1⟩ : ∃ c g1, appG nm [] g = (c, g1) := ⟨_, _, rfl⟩
      obtain ⟨c2, g3, e3⟩ : ∃ c g3, syncG nm g1 = (c, g3) := ⟨_, _, rfl⟩
      rw [openG_new h6 e1 e3]
      split
      · rfl
      split <;> rfl
    refine ⟨w.heap.size, Nat.le_refl _, h3.below.size, ⟨lv, _, rfl, DSig.rezone (Z1 := ⟨fun _ => False⟩) (Z2 := Zi w.heap.size w.heap.size) h1 (Nat.le_refl _) (fun _ _ _ => rfl) (fun _ _ _ _ _ _ => rfl) (fun _ _ _ _ => rfl) (fun k hk => ?_), h2, h3, h4⟩, fun lv' v' z e => ?_⟩
    · have := hk.1
      have := hk.2
      omega
    · obtain rfl := open_slice_eq e
      rw [hrec]
      exact Loose.nil _ _ _
  obtain ⟨er, bs, hr⟩ : ∃ c b, readG nm g = (c, b) := ⟨_, _, rfl⟩
  have her : er ≠ 6 := by rw [hr] at h6; exact h6
  obtain ⟨recs, sz, rest, hs⟩ : ∃ a b c, Fr.scanF bs = (a, b, c) := ⟨_, _, _, rfl⟩
  obtain ⟨s1, s2, s3⟩ := scan_rest _ bs (Nat.lt_succ_self _)
  rw [hs] at s1 s2 s3
  dsimp only at s1 s2 s3
  have hlen : bs.length ≤ q := by have := readG_len (s := nm) hl; rw [hr] at this; exact this
  obtain ⟨c1, g2, h2⟩ : ∃ c g2, (c, g2) = if rest = 2 then ((4 : Int), g) else if rest = 1 then cutG nm (sz : Nat) g else (0, g) := ⟨_, _, rfl⟩
  obtain ⟨c2, g3, h3⟩ : ∃ c g3, syncG nm g2 = (c, g3) := ⟨_, _, rfl⟩
  have hl2 : Lim (q + 1) (k + 1) g2 := by
    by_cases r2 : rest = 2
    · rw [if_pos r2] at h2
      injection h2 with _ h2
      rw [h2]
      exact hl.mono (by omega) (by omega)
    · rw [if_neg r2] at h2
      by_cases r1 : rest = 1
      · rw [if_pos r1] at h2
        have := hl.cut (s := nm) (z := (sz : Nat)) (q' := q + 1) (k' := k + 1) (Nat.le_refl _) (Nat.le_refl _)
        rw [← h2] at this
        exact this
      · rw [if_neg r1] at h2
        injection h2 with _ h2
        rw [h2]
        exact hl.mono (by omega) (by omega)
  have hrd : ∀ w', Below w.heap.size w w' → Calls Try.prog 12 #[.pointer (some ⟨d, 0, none⟩), .string nm] w' fun e w2 => ∃ v, e = .returned (.tuple #[v, .int .i64 er]) ∧ OwnB w2 w'.heap.size v bs ∧ Below w'.heap.size w' w2 := fun w' hb => by
    have := @Read_S ⟨fun _ => False⟩ nm d mb base g w' (@DSig.later ⟨fun _ => False⟩ _ _ _ _ _ _ hd hb)
    rw [hr] at this
    exact this
  refine Open_scan nm base d mb g g2 g3 er c1 c2 bs recs sz rest (openG nm g) w hbs hd her s1 hrd (by omega) hs ?_ ?_ ?_
  · intro Z N w' hb a0 a1 a2 a3 hd'
    by_cases r2 : rest = 2
    · rw [if_pos r2] at h2
      injection h2 with h2 h4
      subst h2
      subst h4
      subst r2
      refine (step2_bad N w' a3).mono ?_
      rintro e w2 ⟨rfl, rfl⟩
      exact ⟨rfl, hd', FD.refl _ _ _⟩
    · rw [if_neg r2] at h2
      by_cases r1 : rest = 1
      · rw [if_pos r1] at h2
        subst r1
        have := @step2_S Z base N d mb q k sz nm g w' hb a0 a1 a2 a3 hd' hl hq (by omega)
        rw [← h2] at this
        exact this
      · rw [if_neg r1] at h2
        injection h2 with h2 h4
        subst h2
        subst h4
        obtain rfl : rest = 0 := by omega
        refine (step2_whole N w' a3).mono ?_
        rintro e w2 ⟨rfl, rfl⟩
        exact ⟨rfl, hd', FD.refl _ _ _⟩
  · intro Z N w' hb a0 a1 hd'
    have := @step3_S Z base N d mb (q + 1) (k + 1) nm g2 w' hb a0 a1 hd' hl2 (by omega)
    rw [h3] at this
    exact this
  · by_cases h0 : er = 0
    · subst h0
      rw [if_neg (by simp)]
      exact openG_old hr hs h2 h3
    · rw [if_pos h0]
      unfold openG
      rw [if_neg h6, hr, if_pos h0]
end Go.Proofs.Ytgbpgmbnihfkkaa
