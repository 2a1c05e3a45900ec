/- ledger: Open of a file that is there; of a disk that is out -/
import Derived.Test.YtjkkfjmloleedaaGreatLOne
import Derived.Test.YtjkkfjmloleedaaGreatLAdd
import Derived.Test.YtjkkfjmloleedaaGreatKit
import Derived.Test.YtjkkfjmloleedaaGreatOwn
set_option linter.unusedSimpArgs false
set_option linter.unusedVariables false
namespace Go.Proofs.YtjkkfjmloleedaaGreat
open Go.RowKit
set_option linter.unusedSectionVars false
theorem DSig.zi {w w' : World} {d mb base : Nat} {g : Sig} (h : @DSig ⟨fun _ => False⟩ w d mb base g) (hb : Below w.heap.size w w') : @DSig (Zi w.heap.size w'.heap.size) w' d mb base g :=
  DSig.rezone (Z1 := ⟨fun _ => False⟩) (Z2 := Zi w.heap.size w'.heap.size) h hb.size (fun j hj _ => hb.block j hj) (fun j c t fr hj _ => hb.block j (heap_lt hj)) (fun j es c hj => hb.block j (heap_lt hj)) (fun k hk => ⟨.inr hk.1, hk.2⟩)
/-- a slice of n slices that each own some bytes, all of them in blocks of [B, S). -/
def Loose (w : World) (B S n : Nat) (v : Value) : Prop :=
  ∃ vs : List Value, vs.length = n ∧ w.ownsRow B 36 1 v n vs ∧ (∀ g, v.ownBlock = some g → g < S) ∧
    ∀ i, i < n → ∃ u l, vs[i]? = some u ∧ OwnB w B u l ∧ (∀ g, u.ownBlock = some g → g < S)
theorem Lists.loose {w : World} {B : Nat} {v : Value} {L : List (List UInt8)} (h : Lists w B v L) : Loose w B w.heap.size L.length v := by
  obtain ⟨vs, h1, ⟨h2, _⟩, h3⟩ := h
  refine ⟨vs, h1, h2, fun g hg => (h2.lt g hg).2, fun i hi => ?_⟩
  obtain ⟨u, hu, ho⟩ := h3 i hi
  exact ⟨u, _, hu, ho, fun g hg => (ho.1.lt g hg).2⟩
theorem Loose.later {w w' : World} {B S n : Nat} {v : Value} (h : Loose w B S n v) (hb : Below w.heap.size w w') : Loose w' B S n v := by
  obtain ⟨vs, h1, h2, h2b, h3⟩ := h
  refine ⟨vs, h1, ownsRow_later h2 hb, h2b, fun i hi => ?_⟩
  obtain ⟨u, l, hu, ho, hs⟩ := h3 i hi
  exact ⟨u, l, hu, ho.later hb, hs⟩
theorem Loose.nil (w : World) (B S : Nat) : Loose w B S 0 (.slice none 0 0) := ⟨[], rfl, World.ownsRow_nil _ _ _ _, fun g hg => by simp [Value.ownBlock] at hg, fun i hi => absurd hi (by omega)⟩
theorem Loose.fd {w w' : World} {base B S n : Nat} {v : Value} (h : Loose w B S n v) (k : FD base none w w') : Loose w' B S n v := by
  have key : ∀ {e s n : Nat} {u : Value} {xs : List Value}, w.ownsRow B e s u n xs → e = 36 ∨ e = 5 → ∀ g, u.ownBlock = some g → w'.heap[g]? = w.heap[g]? := by
    intro e s n u xs hu he g hg
    rcases hu.2 with ⟨rfl, _⟩ | ⟨g', cap, cur, rfl, _, hg', _⟩
    · simp [Value.ownBlock] at hg
    · simp only [Value.ownBlock, Option.some.injEq] at hg
      subst hg
      exact (k.cells _ _ _ _ hg' (by rcases he with rfl | rfl <;> unfold TD <;> decide) (by simp)).trans hg'.symm
  obtain ⟨vs, h1, h2, h2b, h3⟩ := h
  refine ⟨vs, h1, ownsRow_move h2 (key h2 (.inl rfl)), h2b, fun i hi => ?_⟩
  obtain ⟨u, l, hu, ho, hs⟩ := h3 i hi
  exact ⟨u, l, hu, ho.move (key ho.1 (.inr rfl)), hs⟩
set_option maxRecDepth 100000 in
set_option maxHeartbeats 4000000 in
/-- Open where Read tells er and bs, Scan recs, sz and rest, the steps er, c1 and c2. -/
theorem Open_scan (nm : ByteArray) (base d mb : Nat) (g g2 g3 : Sig) (er c1 c2 : Int) (bs : List UInt8) (recs : List (List UInt8)) (sz rest : Nat) (o : Int × Option LSig × List (List UInt8) × Sig) (w : World) (hbs : base ≤ w.heap.size) (hd : @DSig ⟨fun _ => False⟩ w d mb base g) (her : er ≠ 6) (hr2 : rest ≤ 2)
    (hR : ∀ w', Below w.heap.size w w' → Calls Tryz.prog 33 #[.pointer (some ⟨d, 0, none⟩), .string nm] w' fun e w2 => ∃ v, e = .returned (.tuple #[v, .int .i64 er]) ∧ OwnB w2 w'.heap.size v bs ∧ Below w'.heap.size w' w2)
    (hlen : bs.length ≤ 4294967296) (hscan : Fr.scanF bs = (recs, sz, rest))
    (h2 : ∀ (Z : Zone) (N : Nat) (w' : World), base ≤ w'.heap.size → w'.heap[N]? = some (.cells #[.pointer (some ⟨d, 0, none⟩)] 24 (0, 0)) → w'.heap[N + 1]? = some (.cells #[.string nm] 9 (0, 0)) → w'.heap[N + 1 + 1]? = some (.cells #[.int .i64 (sz : Int)] 3 (0, 0)) → w'.heap[N + 1 + 1 + 1]? = some (.cells #[.int .i64 (rest : Int)] 3 (0, 0)) → @DSig Z w' d mb base g →
      Calls Tryz.prog 76 #[.pointer (some ⟨N + 1 + 1 + 1, 0, none⟩), .pointer (some ⟨N, 0, none⟩), .pointer (some ⟨N + 1, 0, none⟩), .pointer (some ⟨N + 1 + 1, 0, none⟩)] w' fun e w2 => e = .returned (.int .i64 c1) ∧ @DSig Z w2 d mb base g2 ∧ FD base none w' w2)
    (h3 : ∀ (Z : Zone) (N : Nat) (w' : World), base ≤ w'.heap.size → w'.heap[N]? = some (.cells #[.pointer (some ⟨d, 0, none⟩)] 24 (0, 0)) → w'.heap[N + 1]? = some (.cells #[.string nm] 9 (0, 0)) → @DSig Z w' d mb base g2 →
      Calls Tryz.prog 77 #[.pointer (some ⟨N, 0, none⟩), .pointer (some ⟨N + 1, 0, none⟩)] w' fun e w2 => e = .returned (.int .i64 c2) ∧ @DSig Z w2 d mb base g3 ∧ FD base none w' w2)
    (ho : o = if er ≠ 0 then (er, none, [], g) else if c1 ≠ 0 then (c1, none, [], g2) else if c2 ≠ 0 then (c2, none, [], g3) else (0, some ⟨nm, (recs.length : Nat), (sz : Nat), false⟩, recs, g3)) :
    Calls Tryz.prog 43 #[.pointer (some ⟨d, 0, none⟩), .string nm] w fun e w' => ∃ hi, w.heap.size ≤ hi ∧ hi ≤ w'.heap.size ∧ OpenR (Zi w.heap.size hi) o d mb base w e w' ∧ (∀ lv v z, e = .returned (.tuple #[lv, v, z]) → Loose w' w.heap.size hi o.2.2.1.length v) := by
  have hmf : ∀ (fn : Fn) (first cap : Array Value) (w : World), (Instr.makeFunc fn first cap).run Tryz.prog w = .ok (.func fn first cap) w := fun _ _ _ _ => rfl
  have HD := Lib.hid hd
  have HSC := Lib.hid hscan
  have HRD := Lib.hid hR
  have HS2 := Lib.hid h2
  have HS3 := Lib.hid h3
  have HO := Lib.hid ho
  have HER := Lib.hid her
  have hef : (er == 6) = false := by simpa using her
  have HB := Lib.hid hbs
  clear hd hscan hR h2 h3 ho her
  go_enter Tryz.func43, Tryz.ntmps43
  go_wp2_with fail
  generalize hw1 : (((w.alloc (.cells #[.pointer (some ⟨d, 0, none⟩)] 24)).alloc (.cells #[.string nm] 9)).alloc (.cells #[.int .i64 0] 3)).alloc (.cells #[.int .i64 0] 3) = w1
  obtain ⟨b0, b1, b2, b3, hB1, hS1⟩ := open_boxes _ nm w w1 hw1
  clear hw1
  obtain ⟨N, hN⟩ : ∃ N, N = w.heap.size := ⟨_, rfl⟩
  rw [← hN] at b0 b1 b2 b3 hS1 hbs ⊢
  have HX := Lib.hid (And.intro b0 (And.intro b1 (And.intro b2 (And.intro b3 (And.intro hB1 hN)))))
  refine (HRD.out w1 hB1).mono ?_
  clear b0 b1 b2 b3 hB1 hN
  rintro e w2 ⟨v, rfl, hown, hb2⟩
  obtain ⟨va, vc, hv, hvb, _⟩ := hown.bytes
  subst hv
  have HVB := Lib.hid hvb
  have HB2 := Lib.hid hb2
  have HLEN := Lib.hid hlen
  clear hown hb2 hvb hlen
  go_wp2_with fail
  refine (Scan_any va bs.length vc bs _ (HVB.out.later (((Below.refl _ _).alloc (Nat.le_refl _) _).alloc (by simp) _)) HLEN.out).mono ?_
  rintro e w3 ⟨lv, rfl, hls, hb3⟩
  rw [HSC.out] at hls ⊢
  have h23 : Below w2.heap.size w2 w3 := Below.trans (((Below.refl _ _).alloc (Nat.le_refl _) _).alloc (by simp) _) (hb3.mono (by simp <;> omega))
  have hs2 : N + 4 ≤ w2.heap.size := by have := HB2.out.size; omega
  have hx2 : w3.cell? ⟨N + 1 + 1, 0, none⟩ = some (.int .i64 0) := cell_of_row _ _ _ _ _ _ ((h23.block _ (by omega)).trans ((HB2.out.block _ (by omega)).trans HX.out.2.2.1))
  have hx3 : w3.cell? ⟨N + 1 + 1 + 1, 0, none⟩ = some (.int .i64 0) := cell_of_row _ _ _ _ _ _ ((h23.block _ (by omega)).trans ((HB2.out.block _ (by omega)).trans HX.out.2.2.2.1))
  have hz2 : w3.frozen? ⟨N + 1 + 1, 0, none⟩ = false := frozen_of_row _ _ _ _ _ ((h23.block _ (by omega)).trans ((HB2.out.block _ (by omega)).trans HX.out.2.2.1))
  have hz3 : w3.frozen? ⟨N + 1 + 1 + 1, 0, none⟩ = false := frozen_of_row _ _ _ _ _ ((h23.block _ (by omega)).trans ((HB2.out.block _ (by omega)).trans HX.out.2.2.2.1))
  obtain ⟨la, lc, hlv, hll⟩ := hls.reads
  subst hlv
  have HLS := Lib.hid hls
  have HB3 := Lib.hid hb3
  have H23 := Lib.hid h23
  clear hls hb3 h23 hll
  go_wp2_with fail
  obtain ⟨F, hF⟩ : ∃ F, F = w2.heap.size + 1 := ⟨_, rfl⟩
  obtain ⟨E, hE⟩ : ∃ E, E = w2.heap.size := ⟨_, rfl⟩
  obtain ⟨G, hG⟩ : ∃ G, G = w3.heap.size := ⟨_, rfl⟩
  rw [← hF, ← hE, ← hG]
  generalize hX : (World.alloc (World.setCell (World.setCell w3 _ _) _ _) _) = X
  obtain ⟨hmem, hbX, hkX⟩ := open_mem2 N E F (some ⟨d, 0, none⟩) er sz rest nm w2 w3 X hE hF hs2 ((HB2.out.block _ (by omega)).trans HX.out.1) ((HB2.out.block _ (by omega)).trans HX.out.2.1) ((HB2.out.block _ (by omega)).trans HX.out.2.2.1) ((HB2.out.block _ (by omega)).trans HX.out.2.2.2.1) HB3.out G hG hX
  have hbw : Below w.heap.size w X := HX.out.2.2.2.2.1.trans (by have hN := HX.out.2.2.2.2.2; rw [← hN]; exact (HB2.out.mono (by omega)).trans hbX)
  have hlX : Lists X w.heap.size (.slice la recs.length lc) recs := by
    refine (HLS.out.move fun g c t hg ht => ?_).base ?_
    · refine hkX g ?_ ?_ (heap_lt hg)
      · rintro rfl
        rw [(H23.out.block _ (by omega)).trans ((HB2.out.block _ (by omega)).trans HX.out.2.2.1)] at hg
        cases hg
        rcases ht with h | h <;> cases h
      · rintro rfl
        rw [(H23.out.block _ (by omega)).trans ((HB2.out.block _ (by omega)).trans HX.out.2.2.2.1)] at hg
        cases hg
        rcases ht with h | h <;> cases h
    · have := HB2.out.size
      have hN := HX.out.2.2.2.2.2
      simp
      omega
  have hloose := hlX.loose
  have HXX := Lib.hid (And.intro hmem (And.intro hbw (And.intro hlX (And.intro (DSig.zi HD.out hbw) hloose))))
  clear hmem hbX hkX hbw hlX hloose hX hx2 hx3 hz2 hz3 hE hF hG HB2 HB3 H23 HVB HLS
  have en1 := enters_1
  have en2 := enters_2
  have en3 := enters_3
  go_loopw [37] (fun i wr => ∃ j : Nat, j ≤ 3 ∧ i = .int .i64 j ∧ Hid (OpenMem wr N E F G (some ⟨d, 0, none⟩) nm er false sz rest) ∧ Hid (FD base none w wr) ∧ Hid (Lists wr w.heap.size (.slice la recs.length lc) recs ∧ Loose wr w.heap.size X.heap.size recs.length (.slice la recs.length lc) ∧ X.heap.size ≤ wr.heap.size) ∧ Hid ((j = 0 ∧ @DSig (Zi w.heap.size X.heap.size) wr d mb base g) ∨ (j = 1 ∧ er = 0 ∧ @DSig (Zi w.heap.size X.heap.size) wr d mb base g) ∨ (j = 2 ∧ er = 0 ∧ c1 = 0 ∧ @DSig (Zi w.heap.size X.heap.size) wr d mb base g2) ∨ (j = 3 ∧ er = 0 ∧ c1 = 0 ∧ c2 = 0 ∧ @DSig (Zi w.heap.size X.heap.size) wr d mb base g3))) (fun i _ => 3 - (intOf i).toNat)
  case atStart => exact ⟨0, by omega, rfl, Lib.hid HXX.out.1, Lib.hid (FD.of_below HXX.out.2.1 (by have := HX.out.2.2.2.2.2; have := HB.out; omega)), Lib.hid ⟨HXX.out.2.2.1, HXX.out.2.2.2.2, Nat.le_refl _⟩, Lib.hid (.inl ⟨rfl, HXX.out.2.2.2.1⟩)⟩
  case round =>
    obtain ⟨j, hj, rfl, hm, hF, hLL, hD⟩ := hrel
    obtain ⟨f0, f1, f2⟩ := hm.out.funcs
    have hj4 : j = 0 ∨ j = 1 ∨ j = 2 ∨ j = 3 := by omega
    have hbr : base ≤ wr.heap.size := Nat.le_trans (by have := HX.out.2.2.2.2.2; have := HB.out; omega) hF.out.below.size
    have hws : w.heap.size ≤ X.heap.size := HXX.out.2.1.size
    have HBR := Lib.hid (And.intro hbr hws)
    clear hbr hws
    rcases hj4 with rfl | rfl | rfl | rfl
    · have hdr : @DSig (Zi w.heap.size X.heap.size) wr d mb base g := by
        rcases hD.out with ⟨_, h⟩ | ⟨h, _⟩ | ⟨h, _⟩ | ⟨h, _⟩
        · exact h
        all_goals omega
      have HDR := Lib.hid hdr
      clear hdr
      go_wp2_with fail
      refine (step1_old N E F er wr hm.out.err hm.out.fresh).mono ?_
      rintro e w2 ⟨rfl, rfl⟩
      by_cases hc0 : er = 0
      · have HC0 := Lib.hid hc0
        have hcb : (er == 0) = true := by simpa using hc0
        have hcb2 : (er != 0) = false := by simpa using hc0
        clear hc0
        go_wp2_with fail
        go_roundw
        case rel => exact ⟨1, by omega, rfl, hm, hF, hLL, Lib.hid (.inr (.inl ⟨rfl, HC0.out, HDR.out⟩))⟩
        case measure => simp [intOf]
      · have hcb : (er == 0) = false := by simpa using hc0
        have hcb2 : (er != 0) = true := by simpa using hc0
        have HC0 := Lib.hid hc0
        clear hc0
        go_wp2_with fail
        go_ret3
        rw [HO.out, if_pos HC0.out]
        refine ⟨_, HBR.out.2, hLL.out.2.2, ⟨_, _, rfl, HDR.out, Lists.nil _ _, hF.out, .inl (by simp)⟩, fun lv v z e => ?_⟩
        obtain rfl := open_slice_eq e
        exact Loose.nil _ _ _
    · have hdr : er = 0 ∧ @DSig (Zi w.heap.size X.heap.size) wr d mb base g := by
        rcases hD.out with ⟨h, _⟩ | ⟨_, h⟩ | ⟨h, _⟩ | ⟨h, _⟩
        · omega
        · exact h
        all_goals omega
      have HDR := Lib.hid hdr
      clear hdr
      go_wp2_with fail
      refine (HS2.out _ N wr HBR.out.1 hm.out.box hm.out.name hm.out.size hm.out.rest HDR.out.2).mono ?_
      rintro e w2 ⟨rfl, hd2, hf2⟩
      have HREL := Lib.hid (And.intro (hm.out.fd hf2) (And.intro (hF.out.trans hf2) (And.intro hd2 (And.intro (hf2.lists hLL.out.1) (And.intro (hLL.out.2.1.fd hf2) (Nat.le_trans hLL.out.2.2 hf2.below.size))))))
      clear hd2 hf2
      by_cases hc1 : c1 = 0
      · have HC1 := Lib.hid hc1
        have hcb : (c1 == 0) = true := by simpa using hc1
        have hcb2 : (c1 != 0) = false := by simpa using hc1
        clear hc1
        go_wp2_with fail
        go_roundw
        case rel => exact ⟨2, by omega, rfl, Lib.hid HREL.out.1, Lib.hid HREL.out.2.1, Lib.hid HREL.out.2.2.2, Lib.hid (.inr (.inr (.inl ⟨rfl, HDR.out.1, HC1.out, HREL.out.2.2.1⟩)))⟩
        case measure => simp [intOf]
      · have hcb : (c1 == 0) = false := by simpa using hc1
        have hcb2 : (c1 != 0) = true := by simpa using hc1
        have HC1 := Lib.hid hc1
        clear hc1
        go_wp2_with fail
        go_ret3
        rw [HO.out, if_neg (by have := HDR.out.1; omega), if_pos HC1.out]
        refine ⟨_, HBR.out.2, HREL.out.2.2.2.2.2, ⟨_, _, rfl, HREL.out.2.2.1, Lists.nil _ _, HREL.out.2.1, .inl (by simp)⟩, fun lv v z e => ?_⟩
        obtain rfl := open_slice_eq e
        exact Loose.nil _ _ _
    · have hdr : er = 0 ∧ c1 = 0 ∧ @DSig (Zi w.heap.size X.heap.size) wr d mb base g2 := by
        rcases hD.out with ⟨h, _⟩ | ⟨h, _⟩ | ⟨_, h⟩ | ⟨h, _⟩
        · omega
        · omega
        · exact h
        · omega
      have HDR := Lib.hid hdr
      clear hdr
      go_wp2_with fail
      refine (HS3.out _ N wr HBR.out.1 hm.out.box hm.out.name HDR.out.2.2).mono ?_
      rintro e w2 ⟨rfl, hd2, hf2⟩
      have HREL := Lib.hid (And.intro (hm.out.fd hf2) (And.intro (hF.out.trans hf2) (And.intro hd2 (And.intro (hf2.lists hLL.out.1) (And.intro (hLL.out.2.1.fd hf2) (Nat.le_trans hLL.out.2.2 hf2.below.size))))))
      clear hd2 hf2
      by_cases hc2 : c2 = 0
      · have HC2 := Lib.hid hc2
        have hcb : (c2 == 0) = true := by simpa using hc2
        have hcb2 : (c2 != 0) = false := by simpa using hc2
        clear hc2
        go_wp2_with fail
        go_roundw
        case rel => exact ⟨3, by omega, rfl, Lib.hid HREL.out.1, Lib.hid HREL.out.2.1, Lib.hid HREL.out.2.2.2, Lib.hid (.inr (.inr (.inr ⟨rfl, HDR.out.1, HDR.out.2.1, HC2.out, HREL.out.2.2.1⟩)))⟩
        case measure => simp [intOf]
      · have hcb : (c2 == 0) = false := by simpa using hc2
        have hcb2 : (c2 != 0) = true := by simpa using hc2
        have HC2 := Lib.hid hc2
        clear hc2
        go_wp2_with fail
        go_ret3
        rw [HO.out, if_neg (by have := HDR.out.1; omega), if_neg (by have := HDR.out.2.1; omega), if_pos HC2.out]
        refine ⟨_, HBR.out.2, HREL.out.2.2.2.2.2, ⟨_, _, rfl, HREL.out.2.2.1, Lists.nil _ _, HREL.out.2.1, .inl (by simp)⟩, fun lv v z e => ?_⟩
        obtain rfl := open_slice_eq e
        exact Loose.nil _ _ _
    · have hdr : er = 0 ∧ c1 = 0 ∧ c2 = 0 ∧ @DSig (Zi w.heap.size X.heap.size) wr d mb base g3 := by
        rcases hD.out with ⟨h, _⟩ | ⟨h, _⟩ | ⟨h, _⟩ | ⟨_, h⟩
        · omega
        · omega
        · omega
        · exact h
      have HDR := Lib.hid hdr
      have k0 : wr.cell? ⟨N, 0, none⟩ = some (.pointer (some ⟨d, 0, none⟩)) := cell_of_row _ _ _ _ _ _ hm.out.box
      have k1 : wr.cell? ⟨N + 1, 0, none⟩ = some (.string nm) := cell_of_row _ _ _ _ _ _ hm.out.name
      have k2 : wr.cell? ⟨N + 1 + 1, 0, none⟩ = some (.int .i64 sz) := cell_of_row _ _ _ _ _ _ hm.out.size
      clear hdr
      go_wp2_with fail
      go_ret3
      rw [HO.out, if_neg (by have := HDR.out.1; omega), if_neg (by have := HDR.out.2.1; omega), if_neg (by have := HDR.out.2.2.1; omega)]
      have hal := (Below.refl wr.heap.size wr).alloc (Nat.le_refl _) (.cells #[.pointer (some ⟨d, 0, none⟩), .string nm, .int .i64 (recs.length : Nat), .int .i64 sz, .bool false] 80)
      refine ⟨_, HBR.out.2, Nat.le_trans hLL.out.2.2 hal.size, ⟨_, _, rfl, @DSig.later (Zi w.heap.size X.heap.size) _ _ _ _ _ _ HDR.out.2.2.2 hal, hLL.out.1.later hal, hF.out.trans (FD.of_below hal HBR.out.1), .inr ⟨_, wr.heap.size, rfl, rfl, hF.out.below.size, heap_alloc_new _ _⟩⟩, fun lv v z e => ?_⟩
      obtain rfl := open_slice_eq e
      exact hLL.out.2.1.later hal
end Go.Proofs.YtjkkfjmloleedaaGreat

/- ledger: Open and Add, each against what it makes of what both hold -/
set_option linter.unusedSimpArgs false
set_option linter.unusedVariables false
namespace Go.Proofs.YtjkkfjmloleedaaGreat
open Go.RowKit
set_option linter.unusedSectionVars false
theorem Add_S [Zone] (base d mb l q k : Nat) (L : LSig) (g : Sig) (ao : Option Addr) (m cap : Nat) (B : List UInt8) (w : World) (hss : L.nm.size ≤ 1099511627776) (hbs : base ≤ w.heap.size) (hbl : base ≤ l) (hl : LedRow w l d L.nm L.n L.size L.br) (hd : DSig w d mb base g) (hB : IsBytes w ao m cap B)
    (hlim : Lim q k g) (hLl : LLim q L) (hq : q + m + 13 ≤ 4294967296) (hk : k + 2 ≤ 1000000) :
    Calls Tryz.prog 13 #[.pointer (some ⟨l, 0, none⟩), .slice ao m cap] w fun e w' => AddR (addG B L g) d mb base l w e w' := by
  have hBl := hB.1
  by_cases hbr : L.br = true
  · exact Add_br base d mb l L g ao m cap B w hbs hl hd hbr
  have hbr : L.br = false := by simpa using hbr
  by_cases hm : 65536 < m
  · exact Add_long base d mb l L g ao m cap B w hbs hl hd hbr hBl hm (by omega)
  obtain ⟨c1, g1, h1⟩ : ∃ c g1, appG L.nm (Fr.putF B) g = (c, g1) := ⟨_, _, rfl⟩
  obtain ⟨c2, g2, h2⟩ : ∃ c g2, syncG L.nm g1 = (c, g2) := ⟨_, _, rfl⟩
  by_cases hc3 : c1 = 3
  · exact Add_full base d mb l q k L g g1 g2 c1 c2 ao m cap B w hss hbs hbl hl hd hB hbr hlim hLl hq hk (by omega) h1 h2 hc3
  by_cases hc0 : c1 = 0
  · by_cases hc2 : c2 = 0
    · exact Add_ok base d mb l q k L g g1 g2 c1 c2 ao m cap B w hss hbs hbl hl hd hB hbr hlim hLl hq hk (by omega) h1 h2 hc0 hc2
    · exact Add_sfail base d mb l q k L g g1 g2 c1 c2 ao m cap B w hss hbs hbl hl hd hB hbr hlim hLl hq hk (by omega) h1 h2 hc0 hc2
  · exact Add_fail base d mb l q k L g g1 g2 c1 c2 ao m cap B w hss hbs hbl hl hd hB hbr hlim hLl hq hk (by omega) h1 h2 hc3 hc0
/-- Open, and the marks between which its records lie. -/
def OpenL (o : Int × Option LSig × List (List UInt8) × Sig) (d mb base : Nat) (w : World) (e : Ending) (w' : World) : Prop :=
  ∃ hi, w.heap.size ≤ hi ∧ hi ≤ w'.heap.size ∧ OpenR (Zi w.heap.size hi) o d mb base w e w' ∧ (∀ lv v z, e = .returned (.tuple #[lv, v, z]) → Loose w' w.heap.size hi o.2.2.1.length v)
theorem Open_S (nm : ByteArray) (hss : nm.size ≤ 1099511627776) (base d mb q k : Nat) (g : Sig) (w : World) (hbs : base ≤ w.heap.size) (hd : @DSig ⟨fun _ => False⟩ w d mb base g) (hl : Lim q k g) (hq : q + 1 ≤ 4294967296) (hk : k + 2 ≤ 1000000) :
    Calls Tryz.prog 43 #[.pointer (some ⟨d, 0, none⟩), .string nm] w fun e w' => OpenL (openG nm g) d mb base w e w' := by
  by_cases h6 : (readG nm g).1 = 6
  · refine (@Open_fresh ⟨fun _ => False⟩ nm hss base d mb q k g w hbs hd hl hq hk h6).mono ?_
    rintro e w' ⟨⟨lv, v, rfl, h1, h2, h3, h4⟩, h5⟩
    obtain rfl := h5 _ _ _ rfl
    have hrec : (openG nm g).2.2.1 = [] := by
      obtain ⟨c0, g1, e1⟩ : ∃ c g1, appG nm [] g = (c, g1) := ⟨_, _, rfl⟩
      obtain ⟨c2, g3, e3⟩ : ∃ c g3, syncG nm g1 = (c, g3) := ⟨_, _, rfl⟩
      rw [openG_new h6 e1 e3]
      split
      · rfl
      split <;> rfl
    refine ⟨w.heap.size, Nat.le_refl _, h3.below.size, ⟨lv, _, rfl, DSig.rezone (Z1 := ⟨fun _ => False⟩) (Z2 := Zi w.heap.size w.heap.size) h1 (Nat.le_refl _) (fun _ _ _ => rfl) (fun _ _ _ _ _ _ => rfl) (fun _ _ _ _ => rfl) (fun k hk => ?_), h2, h3, h4⟩, fun lv' v' z e => ?_⟩
    · have := hk.1
      have := hk.2
      omega
    · obtain rfl := open_slice_eq e
      rw [hrec]
      exact Loose.nil _ _ _
  obtain ⟨er, bs, hr⟩ : ∃ c b, readG nm g = (c, b) := ⟨_, _, rfl⟩
  have her : er ≠ 6 := by rw [hr] at h6; exact h6
  obtain ⟨recs, sz, rest, hs⟩ : ∃ a b c, Fr.scanF bs = (a, b, c) := ⟨_, _, _, rfl⟩
  obtain ⟨s1, s2, s3⟩ := scan_rest _ bs (Nat.lt_succ_self _)
  rw [hs] at s1 s2 s3
  dsimp only at s1 s2 s3
  have hlen : bs.length ≤ q := by have := readG_len (s := nm) hl; rw [hr] at this; exact this
  obtain ⟨c1, g2, h2⟩ : ∃ c g2, (c, g2) = if rest = 2 then ((4 : Int), g) else if rest = 1 then cutG nm (sz : Nat) g else (0, g) := ⟨_, _, rfl⟩
  obtain ⟨c2, g3, h3⟩ : ∃ c g3, syncG nm g2 = (c, g3) := ⟨_, _, rfl⟩
  have hl2 : Lim (q + 1) (k + 1) g2 := by
    by_cases r2 : rest = 2
    · rw [if_pos r2] at h2
      injection h2 with _ h2
      rw [h2]
      exact hl.mono (by omega) (by omega)
    · rw [if_neg r2] at h2
      by_cases r1 : rest = 1
      · rw [if_pos r1] at h2
        have := hl.cut (s := nm) (z := (sz : Nat)) (q' := q + 1) (k' := k + 1) (Nat.le_refl _) (Nat.le_refl _)
        rw [← h2] at this
        exact this
      · rw [if_neg r1] at h2
        injection h2 with _ h2
        rw [h2]
        exact hl.mono (by omega) (by omega)
  have hrd : ∀ w', Below w.heap.size w w' → Calls Tryz.prog 33 #[.pointer (some ⟨d, 0, none⟩), .string nm] w' fun e w2 => ∃ v, e = .returned (.tuple #[v, .int .i64 er]) ∧ OwnB w2 w'.heap.size v bs ∧ Below w'.heap.size w' w2 := fun w' hb => by
    have := @Read_S ⟨fun _ => False⟩ nm d mb base g w' (@DSig.later ⟨fun _ => False⟩ _ _ _ _ _ _ hd hb)
    rw [hr] at this
    exact this
  refine Open_scan nm base d mb g g2 g3 er c1 c2 bs recs sz rest (openG nm g) w hbs hd her s1 hrd (by omega) hs ?_ ?_ ?_
  · intro Z N w' hb a0 a1 a2 a3 hd'
    by_cases r2 : rest = 2
    · rw [if_pos r2] at h2
      injection h2 with h2 h4
      subst h2
      subst h4
      subst r2
      refine (step2_bad N w' a3).mono ?_
      rintro e w2 ⟨rfl, rfl⟩
      exact ⟨rfl, hd', FD.refl _ _ _⟩
    · rw [if_neg r2] at h2
      by_cases r1 : rest = 1
      · rw [if_pos r1] at h2
        subst r1
        have := @step2_S Z base N d mb q k sz nm g w' hb a0 a1 a2 a3 hd' hl hq (by omega)
        rw [← h2] at this
        exact this
      · rw [if_neg r1] at h2
        injection h2 with h2 h4
        subst h2
        subst h4
        obtain rfl : rest = 0 := by omega
        refine (step2_whole N w' a3).mono ?_
        rintro e w2 ⟨rfl, rfl⟩
        exact ⟨rfl, hd', FD.refl _ _ _⟩
  · intro Z N w' hb a0 a1 hd'
    have := @step3_S Z base N d mb (q + 1) (k + 1) nm g2 w' hb a0 a1 hd' hl2 (by omega)
    rw [h3] at this
    exact this
  · by_cases h0 : er = 0
    · subst h0
      rw [if_neg (by simp)]
      exact openG_old hr hs h2 h3
    · rw [if_pos h0]
      unfold openG
      rw [if_neg h6, hr, if_pos h0]
end Go.Proofs.YtjkkfjmloleedaaGreat

/- apportionref06: Sum, word, number, Put -/
namespace Go.Proofs.YtjkkfjmloleedaaGreat
open Go.RowKit
/-- k bits of a byte through the register. -/
def bitK (s : BitVec 32) (c : BitVec 8) (k : Nat) : BitVec 32 := Fr.rbs s (Fr.bitsN k (c.setWidth 32))
theorem bitK_succ (s : BitVec 32) (c : BitVec 8) (k : Nat) : bitK s c (k + 1) = Fr.rb (bitK s c k) ((c.setWidth 32).getLsbD k) := by
  unfold bitK
  rw [Fr.bitsN_succ, Fr.rbs_append]; rfl
theorem bitK_all (s : BitVec 32) (c : BitVec 8) : bitK s c 8 = Fr.bs s c := (Fr.bs_bits s c).symm
theorem rb_val (s : BitVec 32) (b : Bool) : Fr.rb s b = if s.getLsbD 0 != b then (s >>> 1) ^^^ 0xEDB88320#32 else s >>> 1 := by
  unfold Fr.rb Fr.f1
  have h0 : (s ^^^ Fr.b01 b).getLsbD 0 = (s.getLsbD 0 != b) := by
    rw [BitVec.getLsbD_xor, Fr.b01_bit]
    cases s.getLsbD 0 <;> cases b <;> rfl
  have h1 : (s ^^^ Fr.b01 b) >>> 1 = s >>> 1 := by
    apply BitVec.eq_of_getLsbD_eq
    intro i hi
    rw [BitVec.getLsbD_ushiftRight, BitVec.getLsbD_ushiftRight, BitVec.getLsbD_xor, Fr.b01_bit]
    simp
  rw [h0, h1]
theorem bit_of (s : BitVec 32) : s.getLsbD 0 = decide (s.toNat % 2 = 1) := by
  show s.toNat.testBit 0 = _
  rw [Nat.testBit_zero]
theorem bit_of8 (c : UInt8) (k : Nat) (hk : k < 8) : (c.toBitVec.setWidth 32).getLsbD k = decide (c.toNat / 2 ^ k % 2 = 1) := by
  rw [BitVec.getLsbD_setWidth]
  simp only [show k < 32 by omega, decide_true, Bool.true_and]
  show c.toNat.testBit k = _
  rw [Nat.testBit_eq_decide_div_mod_eq]
theorem rb_num (s : BitVec 32) (c : UInt8) (k : Nat) (hk : k < 8) :
    ((s.toNat % 2 = c.toNat / 2 ^ k % 2) → (((Fr.rb s ((c.toBitVec.setWidth 32).getLsbD k)).toNat : Nat) : Int) = (s.toNat : Int) / 2) ∧
    (¬ (s.toNat % 2 = c.toNat / 2 ^ k % 2) → (((Fr.rb s ((c.toBitVec.setWidth 32).getLsbD k)).toNat : Nat) : Int) = bits .xor .u32 ((s.toNat : Int) / 2) 3988292384) := by
  have hs := s.isLt
  have e3 : (s >>> 1).toNat = s.toNat / 2 := by rw [BitVec.toNat_ushiftRight, Nat.shiftRight_eq_div_pow]
  rw [rb_val, bit_of, bit_of8 c k hk]
  refine ⟨fun h => ?_, fun h => ?_⟩
  · rw [h]; simp [e3]
  · have hne : (decide (s.toNat % 2 = 1) != decide (c.toNat / 2 ^ k % 2 = 1)) = true := by
      rw [bne_iff_ne]
      intro h2
      apply h
      by_cases h1 : s.toNat % 2 = 1
      · simp [h1] at h2; omega
      · simp [h1] at h2; omega
    rw [hne, if_pos rfl, BitVec.toNat_xor, e3]
    have e2 : ((s.toNat : Int) / 2) = ((s.toNat / 2 : Nat) : Int) := by omega
    rw [e2, show (3988292384 : Int) = ((3988292384 : Nat) : Int) from rfl, u32_xor_nat _ _ (by omega) (by omega)]
    rfl
set_option maxRecDepth 100000 in
set_option maxHeartbeats 1000000 in
theorem RefSum_any (ao : Option Addr) (n cap : Nat) (l : List UInt8) (w : World) (hs : IsBytes w ao n cap l) :
    Calls Tryz.prog 83 #[.slice ao n cap] w fun e w' => e = .returned (.int .u32 ((Fr.sumB l).toNat : Int)) ∧ w = w' := by
  obtain ⟨hl, hnc, hcm, hat, _⟩ := hs
  unfold maxLen at hcm
  have HL := Lib.hid hl
  have HAT := Lib.hid hat
  clear hl hat
  go_enter Tryz.func83, Tryz.ntmps83
  go_wp2
  go_loop [3, 4, 5, 6] (fun s i _ _ => ∃ k : Nat, k ≤ n ∧ i = .int .i64 k ∧ s = .int .u32 ((Fr.crcL (BitVec.allOnes 32) (Fr.bv (l.take k))).toNat : Int)) (fun _ i _ _ => n - (intOf i).toNat)
  case atStart => exact ⟨0, by omega, rfl, by simp [Fr.crcL, Fr.bv]⟩
  case round =>
    obtain ⟨k, hk, rfl, rfl⟩ := hrel
    by_cases hlt : k < n
    · obtain ⟨b, off, rfl, hat2⟩ := HAT.out (by intro h; have := HL.out; rw [h] at this; simp at this; omega)
      have hcell : w.cell? ⟨b, off + k, none⟩ = some (.int .u8 ((l.getD k 0).toNat : Int)) := hat2 k (by have := HL.out; omega)
      have hsucc := crcL_succ l k (BitVec.allOnes 32) (by have := HL.out; omega)
      obtain ⟨s, hsd⟩ : ∃ s, s = Fr.crcL (BitVec.allOnes 32) (Fr.bv (l.take k)) := ⟨_, rfl⟩
      rw [← hsd] at hsucc ⊢
      obtain ⟨c, hc⟩ : ∃ c, c = l.getD k 0 := ⟨_, rfl⟩
      rw [← hc] at hsucc hcell
      have hcl := c.toNat_lt
      have hcl : c.toNat < 256 := hcl
      have hsl := s.isLt
      have HSS := Lib.hid hsucc
      have HSD := Lib.hid hsd
      have HC := Lib.hid hc
      clear hsucc hsd hc hat2
      go_wp2
      go_loop [3, 5, 6] (fun x j _ => ∃ m : Nat, m ≤ 8 ∧ j = .int .i64 m ∧ x = .int .u32 ((bitK s c.toBitVec m).toNat : Int)) (fun _ j _ => 8 - (intOf j).toNat)
      case atStart => exact ⟨0, by omega, rfl, by simp [bitK, Fr.bitsN, Fr.rbs]⟩
      case round =>
        obtain ⟨m, hm, rfl, rfl⟩ := hrel
        by_cases hlt2 : m < 8
        · have hnum := rb_num (bitK s c.toBitVec m) c m hlt2
          rw [← bitK_succ] at hnum
          obtain ⟨x, hxd⟩ : ∃ x, x = bitK s c.toBitVec m := ⟨_, rfl⟩
          rw [← hxd] at hnum ⊢
          have hxl := x.isLt
          have HN := Lib.hid hnum
          have HXD := Lib.hid hxd
          clear hnum hxd
          by_cases hb : x.toNat % 2 = c.toNat / 2 ^ m % 2
          · have ht : ((x.toNat : Int) % 2 != (c.toNat : Int) / 2 ^ m % 2) = false := by
              rw [bne_eq_false_iff_eq]
              have e : ((c.toNat : Int) / 2 ^ m % 2) = ((c.toNat / 2 ^ m % 2 : Nat) : Int) := by push_cast; rfl
              rw [e]; omega
            have hv := HN.out.1 hb
            have HV := Lib.hid hv
            clear hv hb
            go_wp2
            go_round
            case rel => exact ⟨m + 1, by omega, by go_num, by rw [HV.out]⟩
            case measure => simp [intOf]; omega
          · have ht : ((x.toNat : Int) % 2 != (c.toNat : Int) / 2 ^ m % 2) = true := by
              rw [bne_iff_ne]
              have e : ((c.toNat : Int) / 2 ^ m % 2) = ((c.toNat / 2 ^ m % 2 : Nat) : Int) := by push_cast; rfl
              rw [e]; omega
            have hv := HN.out.2 hb
            have HV := Lib.hid hv
            clear hv hb
            go_wp2
            go_round
            case rel => exact ⟨m + 1, by omega, by go_num, by rw [HV.out]⟩
            case measure => simp [intOf]; omega
        · obtain rfl : m = 8 := by omega
          go_wp2
          go_round
          case rel => exact ⟨k + 1, by omega, by go_num, by rw [HSS.out, bitK_all]⟩
          case measure => simp [intOf]; omega
    · obtain rfl : k = n := by omega
      go_wp2
      go_ret
      refine ⟨?_, rfl⟩
      rw [List.take_of_length_le (by have := HL.out; omega)]
      unfold Fr.sumB
      exact congrArg (fun x => Ending.returned (.int .u32 x)) (Fr.not_u32 _)
end Go.Proofs.YtjkkfjmloleedaaGreat

/- apportionref06: word, Put, number -/
namespace Go.Proofs.YtjkkfjmloleedaaGreat
open Go.RowKit
theorem OwnB_made {w : World} : OwnB (w.alloc (.cells #[] 5)) w.heap.size (.slice (some ⟨w.heap.size, 0, none⟩) 0 0) [] := by
  refine ⟨World.ownsRow_made w #[] 0 (Nat.le_refl _) (by unfold maxLen; omega) (by simp), fun g c t f hg hc u hu => ?_⟩
  simp only [Value.ownBlock, Option.some.injEq] at hg
  subst hg
  rw [heap_alloc_new] at hc
  cases hc
  simp at hu
theorem refWord_any (x : Nat) (w : World) (hx : x < 4294967296) :
    Calls Tryz.prog 82 #[.int .u32 (x : Int)] w fun e w' => ∃ ao, e = .returned (.slice ao 4 4) ∧ IsBytes w' ao 4 4 (Fr.le4 x) ∧ Below w.heap.size w w' := by
  have he := le4_vals x hx
  have hv : ∀ (W : World) (a b c d : Value), [a, b, c, d] = u8s (Fr.le4 x) → IsBytes (W.alloc (.cells #[a, b, c, d] 5)) (some ⟨W.heap.size, 0, none⟩) 4 4 (Fr.le4 x) := by
    intro W a b c d he
    refine ⟨rfl, Nat.le_refl _, by unfold maxLen; omega, fun _ => ⟨_, _, rfl, fun i hi => ?_⟩, fun h => by cases h⟩
    rw [cell_of_row _ _ _ _ _ _ (heap_alloc_new W _), ← u8s_get _ i hi, ← he]; simp
  have HE := Lib.hid he
  have HV := Lib.hid hv
  clear he hv
  go_enter Tryz.func82, Tryz.ntmps82
  go_wp2
  go_ret
  exact ⟨_, rfl, HV.out _ _ _ _ _ HE.out.symm, (Below.refl _ _).alloc (Nat.le_refl _) _⟩
theorem refPut_long (ao : Option Addr) (n cap : Nat) (w : World) (hn : 65536 < n) (hcm : n ≤ 9223372036854775807) :
    Calls Tryz.prog 49 #[.slice ao n cap] w fun e w' => e = .returned (.tuple #[.slice none 0 0, .int .i64 3]) ∧ w = w' := by
  have hp : (65536 : Int) < (n : Int) := by omega
  go_enter Tryz.func49, Tryz.ntmps49
  go_wp2
  go_ret2
  exact ⟨rfl, rfl⟩
set_option maxRecDepth 100000 in
set_option maxHeartbeats 1000000 in
theorem refPut_any (ao : Option Addr) (n cap : Nat) (l : List UInt8) (w : World) (hs : IsBytes w ao n cap l) (hn : n ≤ 65536) :
    Calls Tryz.prog 49 #[.slice ao n cap] w fun e w' => ∃ v, e = .returned (.tuple #[v, .int .i64 0]) ∧ OwnB w' w.heap.size v (Fr.putF l) ∧ Below w.heap.size w w' := by
  have hl := hs.1
  have hp : (n : Int) ≤ 65536 := by omega
  have e4 : Fr.putF l = Fr.le4 n ++ Fr.le4 (4294967295 - n) ++ l ++ Fr.le4 (Fr.sumB l).toNat := by rw [← hl]; rfl
  have E4 := Lib.hid e4
  clear e4
  have HL := Lib.hid hl
  clear hl
  have hmade : OwnB (w.alloc (.cells #[] 5)) w.heap.size (.slice (some ⟨w.heap.size, 0, none⟩) 0 0) [] := OwnB_made
  have hb0 : Below w.heap.size w (w.alloc (.cells #[] 5)) := (Below.refl w.heap.size w).alloc (Nat.le_refl _) _
  have HMADE := Lib.hid hmade
  have HB0 := Lib.hid hb0
  clear hmade hb0
  go_enter Tryz.func49, Tryz.ntmps49
  go_wp2_with fail
  refine (refWord_any n _ (by omega)).mono ?_
  rintro e w1 ⟨a1, rfl, hw1, hb1⟩
  have HB1 := Lib.hid (HB0.out.trans (hb1.mono HB0.out.size))
  have HM1 := Lib.hid (HMADE.out.later hb1)
  clear hb1
  go_wp2_with (at_builtin; refine wpList_append_bytes rfl _ _ rfl w.heap.size _ [] rfl HM1.out _ _ _ _ rfl hw1 (by simp) HB1.out.size ?_; intro v2 w2 hown2 hg2)
  rw [List.nil_append] at hown2
  have HO2 := Lib.hid hown2
  have HB2 := Lib.hid (HB1.out.grown hg2 HB1.out.size (fun k hk => (HM1.out.1.lt k hk).1))
  clear hown2 hg2 hw1
  go_wp2_with fail
  rw [Fr.not_nat n (by omega)]
  refine (refWord_any (4294967295 - n) w2 (by omega)).mono ?_
  rintro e w3 ⟨a3, rfl, hw3, hb3⟩
  have HO3 := Lib.hid (HO2.out.later hb3)
  have HB3 := Lib.hid (HB2.out.trans (hb3.mono HB2.out.size))
  clear hb3
  go_wp2_with (first
    | (at_builtin; refine wpList_append_bytes rfl _ _ rfl w.heap.size _ _ rfl HO4.out _ _ _ l rfl hs4 (by simp [Fr.le4]; omega) HB4.out.size ?_; intro v5 w5 hown5 hg5)
    | (at_builtin; refine wpList_append_bytes rfl _ _ rfl w.heap.size _ _ rfl HO3.out _ _ _ _ rfl hw3 (by simp [Fr.le4]) HB3.out.size ?_; intro v4 w4 hown4 hg4
       have HO4 := Lib.hid hown4
       have HB4 := Lib.hid (HB3.out.grown hg4 HB3.out.size (fun k hk => (HO3.out.1.lt k hk).1))
       have hs4 := hs.later HB4.out))
  have HO5 := Lib.hid hown5
  have HB5 := Lib.hid (HB4.out.grown hg5 HB4.out.size (fun k hk => (HO4.out.1.lt k hk).1))
  clear hown5 hg5 hs4 hown4 hg4 hw3
  refine (RefSum_any _ _ _ l _ (hs.later HB5.out)).mono ?_
  rintro e w6 ⟨rfl, rfl⟩
  have hlim := (Fr.sumB l).isLt
  go_wp2_with fail
  refine (refWord_any (Fr.sumB l).toNat _ hlim).mono ?_
  rintro e w7 ⟨a7, rfl, hw7, hb7⟩
  have HO7 := Lib.hid (HO5.out.later hb7)
  have HB7 := Lib.hid (HB5.out.trans (hb7.mono HB5.out.size))
  clear hb7
  go_wp2_with (at_builtin; refine wpList_append_bytes rfl _ _ rfl w.heap.size _ _ rfl HO7.out _ _ _ _ rfl hw7 (by have := HL.out; simp [Fr.le4]; omega) HB7.out.size ?_; intro v8 w8 hown8 hg8)
  have HO8 := Lib.hid hown8
  have HB8 := Lib.hid (HB7.out.grown hg8 HB7.out.size (fun k hk => (HO7.out.1.lt k hk).1))
  clear hown8 hg8
  go_wp2_with fail
  go_ret2
  exact ⟨v8, rfl, by rw [E4.out]; exact HO8.out, HB8.out⟩
end Go.Proofs.YtjkkfjmloleedaaGreat
