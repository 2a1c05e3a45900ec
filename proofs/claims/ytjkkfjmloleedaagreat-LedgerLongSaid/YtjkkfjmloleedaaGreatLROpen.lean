/- the reference's ledger: Open -/
import Derived.Test.YtjkkfjmloleedaaGreatOver
import Derived.Test.YtjkkfjmloleedaaGreatRefScan
import Derived.Test.YtjkkfjmloleedaaGreatLOne
set_option linter.unusedSimpArgs false
set_option linter.unusedVariables false
namespace Go.Proofs.YtjkkfjmloleedaaGreat
open Go.RowKit
set_option linter.unusedSectionVars false
theorem FR.lists {w w' : World} {base b2 : Nat} {v : Value} {L : List (List UInt8)} (k : FR base none w w') (h : Lists w b2 v L) : Lists w' b2 v L :=
  h.move fun g c t hg ht => (k.cells g c t (0, 0) hg (by rcases ht with rfl | rfl <;> unfold TR <;> decide) (by simp)).trans hg.symm
/-- what the reference's Open tells. -/
def ROpenR [Zone] (o : Int × Option LSig × List (List UInt8) × Sig) (r base : Nat) (w : World) (e : Ending) (w' : World) : Prop :=
  ∃ lv v, e = .returned (.tuple #[lv, v, .int .i64 o.1]) ∧ RSig w' r base o.2.2.2 ∧ Lists w' w.heap.size v o.2.2.1 ∧ FR base none w w' ∧ ((o.2.1 = none ∧ lv = .pointer none) ∨ ∃ L m, o.2.1 = some L ∧ lv = .pointer (some ⟨m, 0, none⟩) ∧ w.heap.size ≤ m ∧ RLedRow w' m r L.nm L.n L.size L.br)

set_option maxRecDepth 100000 in
theorem made_a [Zone] (nm : ByteArray) (hss : nm.size ≤ 1099511627776) (base r q k : Nat) (g g1 g3 : Sig) (c0 c2 : Int) (w : World) (hbs : base ≤ w.heap.size) (hr : RSig w r base g) (hzw : ZW w) (hlim : Lim q k g) (hfit : Fit g) (hq : q + 1 ≤ 4294967296) (hk : k + 2 ≤ 100000) (h1 : appG nm [] g = (c0, g1)) (h3 : syncG nm g1 = (c2, g3)) (hc0 : c0 ≠ 0) :
    Calls Tryz.prog 78 #[.pointer (some ⟨r, 0, none⟩), .string nm] w fun e w' => ROpenR ((c0, none, [], g1) : Int × Option LSig × List (List UInt8) × Sig) r base w e w' := by
  have hl1 : Lim q (k + 1) g1 := by have := hlim.app (s := nm) (B := []) (q' := q) (k' := k + 1) (by simp) (Nat.le_refl _); rw [h1] at this; exact this
  have hf1 : Fit g1 := by have := hfit.app hlim nm [] (by simp; omega); rw [h1] at this; exact this
  have HAP := Lib.hid (rAppend_S nm hss r base q k g none 0 0 [] w hr ⟨hlim, by omega, by omega, hfit.1, hfit.2⟩ hzw (IsBytes.nil w) (fun wa wb _ _ => IsBytes.nil wb) (by omega))
  have HSY := Lib.hid (fun (w' : World) (hr' : RSig w' r base g1) (hz : ZW w') => rSync_S nm r base q (k + 1) g1 w' hr' ⟨hl1, by omega, by omega, hf1.1, hf1.2⟩ hz)
  rw [h1] at HAP
  rw [h3] at HSY
  have HR := Lib.hid (And.intro hr (And.intro hzw hbs))
  clear hlim hfit hl1 hf1 h1 h3 hr hzw hbs hss
  go_enter Tryz.func78, Tryz.ntmps78
  go_wp2_with fail
  refine HAP.out.mono ?_
  rintro e w1 ⟨rfl, hr1, hm1⟩
  have H1 := Lib.hid (And.intro hr1 (FR.of_moved (x := none) HR.out.1 hm1))
  clear hr1 hm1
  have e0 : (c0 == 0) = false := by simpa using hc0
  have e0' : (c0 != 0) = true := by simpa using hc0
  clear hc0
  go_wp2_with fail
  go_ret3
  exact ⟨_, _, rfl, H1.out.1, Lists.nil _ _, H1.out.2, .inl (by simp)⟩
set_option maxRecDepth 100000 in
theorem made_s [Zone] (nm : ByteArray) (hss : nm.size ≤ 1099511627776) (base r q k : Nat) (g g1 g3 : Sig) (c0 c2 : Int) (w : World) (hbs : base ≤ w.heap.size) (hr : RSig w r base g) (hzw : ZW w) (hlim : Lim q k g) (hfit : Fit g) (hq : q + 1 ≤ 4294967296) (hk : k + 2 ≤ 100000) (h1 : appG nm [] g = (c0, g1)) (h3 : syncG nm g1 = (c2, g3)) (hc0 : c0 = 0) (hc2 : c2 ≠ 0) :
    Calls Tryz.prog 78 #[.pointer (some ⟨r, 0, none⟩), .string nm] w fun e w' => ROpenR ((c2, none, [], g3) : Int × Option LSig × List (List UInt8) × Sig) r base w e w' := by
  have hl1 : Lim q (k + 1) g1 := by have := hlim.app (s := nm) (B := []) (q' := q) (k' := k + 1) (by simp) (Nat.le_refl _); rw [h1] at this; exact this
  have hf1 : Fit g1 := by have := hfit.app hlim nm [] (by simp; omega); rw [h1] at this; exact this
  have HAP := Lib.hid (rAppend_S nm hss r base q k g none 0 0 [] w hr ⟨hlim, by omega, by omega, hfit.1, hfit.2⟩ hzw (IsBytes.nil w) (fun wa wb _ _ => IsBytes.nil wb) (by omega))
  have HSY := Lib.hid (fun (w' : World) (hr' : RSig w' r base g1) (hz : ZW w') => rSync_S nm r base q (k + 1) g1 w' hr' ⟨hl1, by omega, by omega, hf1.1, hf1.2⟩ hz)
  rw [h1] at HAP
  rw [h3] at HSY
  have HR := Lib.hid (And.intro hr (And.intro hzw hbs))
  clear hlim hfit hl1 hf1 h1 h3 hr hzw hbs hss
  go_enter Tryz.func78, Tryz.ntmps78
  go_wp2_with fail
  refine HAP.out.mono ?_
  rintro e w1 ⟨rfl, hr1, hm1⟩
  have H1 := Lib.hid (And.intro hr1 (FR.of_moved (x := none) HR.out.1 hm1))
  clear hr1 hm1
  have e0 : (c0 == 0) = true := by simpa using hc0
  have e2' : (c2 != 0) = true := by simpa using hc2
  clear hc0 hc2
  go_wp2_with fail
  refine (HSY.out w1 H1.out.1 (HR.out.2.1.mono H1.out.2.below.size)).mono ?_
  rintro e w2 ⟨rfl, hr2, hm2⟩
  have H2 := Lib.hid (And.intro hr2 (H1.out.2.trans (FR.of_moved (x := none) H1.out.1 hm2)))
  clear hr2 hm2
  go_wp2_with fail
  go_ret3
  exact ⟨_, _, rfl, H2.out.1, Lists.nil _ _, H2.out.2, .inl (by simp)⟩
set_option maxRecDepth 100000 in
theorem made_ok [Zone] (nm : ByteArray) (hss : nm.size ≤ 1099511627776) (base r q k : Nat) (g g1 g3 : Sig) (c0 c2 : Int) (w : World) (hbs : base ≤ w.heap.size) (hr : RSig w r base g) (hzw : ZW w) (hlim : Lim q k g) (hfit : Fit g) (hq : q + 1 ≤ 4294967296) (hk : k + 2 ≤ 100000) (h1 : appG nm [] g = (c0, g1)) (h3 : syncG nm g1 = (c2, g3)) (hc0 : c0 = 0) (hc2 : c2 = 0) :
    Calls Tryz.prog 78 #[.pointer (some ⟨r, 0, none⟩), .string nm] w fun e w' => ROpenR ((0, some ⟨nm, 0, 0, false⟩, [], g3) : Int × Option LSig × List (List UInt8) × Sig) r base w e w' := by
  have hl1 : Lim q (k + 1) g1 := by have := hlim.app (s := nm) (B := []) (q' := q) (k' := k + 1) (by simp) (Nat.le_refl _); rw [h1] at this; exact this
  have hf1 : Fit g1 := by have := hfit.app hlim nm [] (by simp; omega); rw [h1] at this; exact this
  have HAP := Lib.hid (rAppend_S nm hss r base q k g none 0 0 [] w hr ⟨hlim, by omega, by omega, hfit.1, hfit.2⟩ hzw (IsBytes.nil w) (fun wa wb _ _ => IsBytes.nil wb) (by omega))
  have HSY := Lib.hid (fun (w' : World) (hr' : RSig w' r base g1) (hz : ZW w') => rSync_S nm r base q (k + 1) g1 w' hr' ⟨hl1, by omega, by omega, hf1.1, hf1.2⟩ hz)
  rw [h1] at HAP
  rw [h3] at HSY
  have HR := Lib.hid (And.intro hr (And.intro hzw hbs))
  clear hlim hfit hl1 hf1 h1 h3 hr hzw hbs hss
  go_enter Tryz.func78, Tryz.ntmps78
  go_wp2_with fail
  refine HAP.out.mono ?_
  rintro e w1 ⟨rfl, hr1, hm1⟩
  have H1 := Lib.hid (And.intro hr1 (FR.of_moved (x := none) HR.out.1 hm1))
  clear hr1 hm1
  have e0 : (c0 == 0) = true := by simpa using hc0
  have e2' : (c2 != 0) = false := by simpa using hc2
  clear hc0 hc2
  go_wp2_with fail
  refine (HSY.out w1 H1.out.1 (HR.out.2.1.mono H1.out.2.below.size)).mono ?_
  rintro e w2 ⟨rfl, hr2, hm2⟩
  have H2 := Lib.hid (And.intro hr2 (H1.out.2.trans (FR.of_moved (x := none) H1.out.1 hm2)))
  clear hr2 hm2
  go_wp2_with fail
  go_ret3
  have hal := (Below.refl w2.heap.size w2).alloc (Nat.le_refl _) (.cells #[.pointer (some ⟨r, 0, none⟩), .string nm, .int .i64 0, .int .i64 0, .bool false] 69)
  exact ⟨_, _, rfl, H2.out.1.later hal, Lists.nil _ _, H2.out.2.trans (FR.of_below hal (Nat.le_trans HR.out.2.2 H2.out.2.below.size)), .inr ⟨_, w2.heap.size, rfl, rfl, H2.out.2.below.size, heap_alloc_new _ _⟩⟩
theorem made_S [Zone] (nm : ByteArray) (hss : nm.size ≤ 1099511627776) (base r q k : Nat) (g : Sig) (w : World) (hbs : base ≤ w.heap.size) (hr : RSig w r base g) (hzw : ZW w) (hlim : Lim q k g) (hfit : Fit g) (hq : q + 1 ≤ 4294967296) (hk : k + 2 ≤ 100000) (h6 : (readG nm g).1 = 6) :
    Calls Tryz.prog 78 #[.pointer (some ⟨r, 0, none⟩), .string nm] w fun e w' => ROpenR (openG nm g) r base w e w' := by
  obtain ⟨c0, g1, h1⟩ : ∃ c g1, appG nm [] g = (c, g1) := ⟨_, _, rfl⟩
  obtain ⟨c2, g3, h3⟩ : ∃ c g3, syncG nm g1 = (c, g3) := ⟨_, _, rfl⟩
  rw [openG_new h6 h1 h3]
  by_cases hc0 : c0 = 0
  · rw [if_neg (by omega)]
    by_cases hc2 : c2 = 0
    · rw [if_neg (by omega)]
      exact made_ok nm hss base r q k g g1 g3 c0 c2 w hbs hr hzw hlim hfit hq hk h1 h3 hc0 hc2
    · rw [if_pos hc2]
      exact made_s nm hss base r q k g g1 g3 c0 c2 w hbs hr hzw hlim hfit hq hk h1 h3 hc0 hc2
  · rw [if_pos hc0]
    exact made_a nm hss base r q k g g1 g3 c0 c2 w hbs hr hzw hlim hfit hq hk h1 h3 hc0
set_option maxRecDepth 100000 in
theorem rOpen_fresh [Zone] (nm : ByteArray) (hss : nm.size ≤ 1099511627776) (base r q k : Nat) (g : Sig) (w : World) (hbs : base ≤ w.heap.size) (hr : RSig w r base g) (hzw : ZW w) (hlim : Lim q k g) (hfit : Fit g) (hq : q + 1 ≤ 4294967296) (hk : k + 2 ≤ 100000) (h6 : (readG nm g).1 = 6) :
    Calls Tryz.prog 44 #[.pointer (some ⟨r, 0, none⟩), .string nm] w fun e w' => ROpenR (openG nm g) r base w e w' := by
  have HRD := Lib.hid (rRead_S nm r base q k g w hr ⟨hlim, by omega, by omega, hfit.1, hfit.2⟩)
  have HMD := Lib.hid (fun (w' : World) (hb : base ≤ w'.heap.size) (hr' : RSig w' r base g) (hz : ZW w') => made_S nm hss base r q k g w' hb hr' hz hlim hfit hq hk h6)
  have HR := Lib.hid (And.intro hr (And.intro hzw hbs))
  rw [h6] at HRD
  clear hlim hfit hr hzw hbs hss h6
  go_enter Tryz.func44, Tryz.ntmps44
  go_wp2_with fail
  refine HRD.out.mono ?_
  rintro e w1 ⟨v, rfl, hv, hb1⟩
  obtain ⟨va, vc, rfl, _, _⟩ := hv.bytes
  have H1 := Lib.hid hb1
  clear hv hb1
  go_wp2_with fail
  refine (HMD.out w1 (Nat.le_trans HR.out.2.2 H1.out.size) (HR.out.1.later H1.out) (HR.out.2.1.mono H1.out.size)).mono ?_
  rintro e w2 ⟨lv, v2, rfl, h1, h2, h3, h4⟩
  obtain ⟨la, lc, rfl, _⟩ := h2.reads
  have H2 := Lib.hid (And.intro h1 (And.intro h2 (And.intro h3 h4)))
  clear h1 h2 h3 h4
  go_wp2_with fail
  go_ret3
  refine ⟨_, _, rfl, H2.out.1, H2.out.2.1.base H1.out.size, (FR.of_below H1.out HR.out.2.2).trans H2.out.2.2.1, ?_⟩
  rcases H2.out.2.2.2 with h | ⟨L, m, e1, e2, e3, e4⟩
  · exact .inl h
  · exact .inr ⟨L, m, e1, e2, Nat.le_trans H1.out.size e3, e4⟩
set_option maxRecDepth 100000 in
theorem rOpen_out [Zone] (nm : ByteArray) (base r q k : Nat) (g : Sig) (er : Int) (w : World) (hbs : base ≤ w.heap.size) (hr : RSig w r base g) (hlim : Lim q k g) (hfit : Fit g) (hq : q + 1 ≤ 4294967296) (hk : k + 2 ≤ 100000) (he : (readG nm g).1 = er) (h6 : er ≠ 6) (h0 : er ≠ 0) :
    Calls Tryz.prog 44 #[.pointer (some ⟨r, 0, none⟩), .string nm] w fun e w' => ROpenR (openG nm g) r base w e w' := by
  have HO := Lib.hid (show openG nm g = (er, none, [], g) from by unfold openG; rw [he, if_neg h6, if_pos h0])
  have HRD := Lib.hid (rRead_S nm r base q k g w hr ⟨hlim, by omega, by omega, hfit.1, hfit.2⟩)
  have HR := Lib.hid (And.intro hr hbs)
  rw [he] at HRD
  have e6 : (er == 6) = false := by simpa using h6
  have e0 : (er != 0) = true := by simpa using h0
  clear hlim hfit hr hbs he h6 h0
  go_enter Tryz.func44, Tryz.ntmps44
  go_wp2_with fail
  refine HRD.out.mono ?_
  rintro e w1 ⟨v, rfl, hv, hb1⟩
  obtain ⟨va, vc, rfl, _, _⟩ := hv.bytes
  have H1 := Lib.hid hb1
  clear hv hb1
  go_wp2_with fail
  go_ret3
  rw [HO.out]
  exact ⟨_, _, rfl, HR.out.1.later H1.out, Lists.nil _ _, FR.of_below H1.out HR.out.2, .inl (by simp)⟩
set_option maxRecDepth 100000 in
set_option maxHeartbeats 1000000 in
theorem rOpen_bad [Zone] (nm : ByteArray) (base r q k : Nat) (g g2 g3 : Sig) (c1 c2 : Int) (bs : List UInt8) (recs : List (List UInt8)) (sz : Nat) (w : World) (hbs : base ≤ w.heap.size) (hr : RSig w r base g) (hzw : ZW w) (hlim : Lim q k g) (hfit : Fit g) (hq : q + 1 ≤ 4294967296) (hk : k + 2 ≤ 100000) (he : readG nm g = (0, bs)) (hs : Fr.scanF bs = (recs, sz, 2)) :
    Calls Tryz.prog 44 #[.pointer (some ⟨r, 0, none⟩), .string nm] w fun e w' => ROpenR (((4, none, [], g) : Int × Option LSig × List (List UInt8) × Sig)) r base w e w' := by
  have HRD := Lib.hid (rRead_S nm r base q k g w hr ⟨hlim, by omega, by omega, hfit.1, hfit.2⟩)
  rw [he] at HRD
  have hlen : bs.length ≤ 4294967296 := by have := readG_len (s := nm) hlim; rw [he] at this; dsimp only at this; omega
  have HR := Lib.hid (And.intro hr (And.intro hzw hbs))
  have HSC := Lib.hid hs
  have HLEN := Lib.hid hlen
  clear hlim hfit hr hzw hbs he hs hlen
  go_enter Tryz.func44, Tryz.ntmps44
  go_wp2_with fail
  refine HRD.out.mono ?_
  rintro e w1 ⟨v, rfl, hv, hb1⟩
  obtain ⟨va, vc, rfl, hvb, _⟩ := hv.bytes
  have H1 := Lib.hid (And.intro hb1 hvb)
  clear hv hb1 hvb
  go_wp2_with fail
  refine (RefScan_any va bs.length vc bs w1 H1.out.2 HLEN.out).mono ?_
  rintro e w2 ⟨lv, rfl, hls, hb2⟩
  rw [HSC.out] at hls ⊢
  obtain ⟨la, lc, rfl, _⟩ := hls.reads
  have H2 := Lib.hid (And.intro (H1.out.1.trans (hb2.mono H1.out.1.size)) (hls.base H1.out.1.size))
  have hrz := HR.out.1.later H2.out.1
  have HZ := Lib.hid (And.intro hrz (And.intro (HR.out.2.1.mono H2.out.1.size) (FR.of_below (x := none) H2.out.1 HR.out.2.2)))
  clear hls hb2 hrz
  go_wp2_with fail
  go_ret3
  exact ⟨_, _, rfl, HZ.out.1, Lists.nil _ _, HZ.out.2.2, .inl (by simp)⟩
set_option maxRecDepth 100000 in
set_option maxHeartbeats 1000000 in
theorem rOpen_cut [Zone] (nm : ByteArray) (base r q k : Nat) (g g2 g3 : Sig) (c1 c2 : Int) (bs : List UInt8) (recs : List (List UInt8)) (sz : Nat) (w : World) (hbs : base ≤ w.heap.size) (hr : RSig w r base g) (hzw : ZW w) (hlim : Lim q k g) (hfit : Fit g) (hq : q + 1 ≤ 4294967296) (hk : k + 2 ≤ 100000) (he : readG nm g = (0, bs)) (hs : Fr.scanF bs = (recs, sz, 1)) (h2 : cutG nm (sz : Nat) g = (c1, g2)) (hc1 : c1 ≠ 0) :
    Calls Tryz.prog 44 #[.pointer (some ⟨r, 0, none⟩), .string nm] w fun e w' => ROpenR (((c1, none, [], g2) : Int × Option LSig × List (List UInt8) × Sig)) r base w e w' := by
  have HRD := Lib.hid (rRead_S nm r base q k g w hr ⟨hlim, by omega, by omega, hfit.1, hfit.2⟩)
  rw [he] at HRD
  have hlen : bs.length ≤ 4294967296 := by have := readG_len (s := nm) hlim; rw [he] at this; dsimp only at this; omega
  have HCT := Lib.hid (fun (w' : World) (hr' : RSig w' r base g) => rCut_S nm (sz : Nat) r base q k g w' hr' ⟨hlim, by omega, by omega, hfit.1, hfit.2⟩)
  rw [h2] at HCT
  have HR := Lib.hid (And.intro hr (And.intro hzw hbs))
  have HSC := Lib.hid hs
  have HLEN := Lib.hid hlen
  clear hlim hfit hr hzw hbs he hs hlen h2
  go_enter Tryz.func44, Tryz.ntmps44
  go_wp2_with fail
  refine HRD.out.mono ?_
  rintro e w1 ⟨v, rfl, hv, hb1⟩
  obtain ⟨va, vc, rfl, hvb, _⟩ := hv.bytes
  have H1 := Lib.hid (And.intro hb1 hvb)
  clear hv hb1 hvb
  go_wp2_with fail
  refine (RefScan_any va bs.length vc bs w1 H1.out.2 HLEN.out).mono ?_
  rintro e w2 ⟨lv, rfl, hls, hb2⟩
  rw [HSC.out] at hls ⊢
  obtain ⟨la, lc, rfl, _⟩ := hls.reads
  have H2 := Lib.hid (And.intro (H1.out.1.trans (hb2.mono H1.out.1.size)) (hls.base H1.out.1.size))
  have hrz := HR.out.1.later H2.out.1
  have HZ := Lib.hid (And.intro hrz (And.intro (HR.out.2.1.mono H2.out.1.size) (FR.of_below (x := none) H2.out.1 HR.out.2.2)))
  clear hls hb2 hrz
  have e1 : (c1 == 0) = false := by simpa using hc1
  have e1' : (c1 != 0) = true := by simpa using hc1
  clear hc1
  go_wp2_with fail
  refine (HCT.out w2 HZ.out.1).mono ?_
  rintro e w3 ⟨rfl, hr3, hm3⟩
  have HY := Lib.hid (And.intro hr3 (And.intro (HZ.out.2.1.mono hm3.below.size) (HZ.out.2.2.trans (FR.of_moved (x := none) HZ.out.1 hm3))))
  have HLS3 := Lib.hid ((FR.of_moved (x := none) HZ.out.1 hm3).lists H2.out.2)
  clear hr3 hm3
  go_wp2_with fail
  go_ret3
  exact ⟨_, _, rfl, HY.out.1, Lists.nil _ _, HY.out.2.2, .inl (by simp)⟩
set_option maxRecDepth 100000 in
set_option maxHeartbeats 1000000 in
theorem rOpen_torns [Zone] (nm : ByteArray) (base r q k : Nat) (g g2 g3 : Sig) (c1 c2 : Int) (bs : List UInt8) (recs : List (List UInt8)) (sz : Nat) (w : World) (hbs : base ≤ w.heap.size) (hr : RSig w r base g) (hzw : ZW w) (hlim : Lim q k g) (hfit : Fit g) (hq : q + 1 ≤ 4294967296) (hk : k + 2 ≤ 100000) (he : readG nm g = (0, bs)) (hs : Fr.scanF bs = (recs, sz, 1)) (h2 : cutG nm (sz : Nat) g = (c1, g2)) (hc1 : c1 = 0) (h3 : syncG nm g2 = (c2, g3)) (hc2 : c2 ≠ 0) :
    Calls Tryz.prog 44 #[.pointer (some ⟨r, 0, none⟩), .string nm] w fun e w' => ROpenR (((c2, none, [], g3) : Int × Option LSig × List (List UInt8) × Sig)) r base w e w' := by
  have HRD := Lib.hid (rRead_S nm r base q k g w hr ⟨hlim, by omega, by omega, hfit.1, hfit.2⟩)
  rw [he] at HRD
  have hlen : bs.length ≤ 4294967296 := by have := readG_len (s := nm) hlim; rw [he] at this; dsimp only at this; omega
  have HCT := Lib.hid (fun (w' : World) (hr' : RSig w' r base g) => rCut_S nm (sz : Nat) r base q k g w' hr' ⟨hlim, by omega, by omega, hfit.1, hfit.2⟩)
  rw [h2] at HCT
  have hl2 : Lim (q + 1) (k + 1) g2 := by have := hlim.cut (s := nm) (z := (sz : Nat)) (q' := q + 1) (k' := k + 1) (Nat.le_refl _) (Nat.le_refl _); rw [h2] at this; exact this
  have hf2 : Fit g2 := by have := hfit.cut hlim nm (sz : Nat) hq; rw [h2] at this; exact this
  have HSY := Lib.hid (fun (w' : World) (hr' : RSig w' r base g2) (hz : ZW w') => rSync_S nm r base (q + 1) (k + 1) g2 w' hr' ⟨hl2, by omega, by omega, hf2.1, hf2.2⟩ hz)
  rw [h3] at HSY
  clear hl2 hf2 h3
  have HR := Lib.hid (And.intro hr (And.intro hzw hbs))
  have HSC := Lib.hid hs
  have HLEN := Lib.hid hlen
  clear hlim hfit hr hzw hbs he hs hlen h2
  go_enter Tryz.func44, Tryz.ntmps44
  go_wp2_with fail
  refine HRD.out.mono ?_
  rintro e w1 ⟨v, rfl, hv, hb1⟩
  obtain ⟨va, vc, rfl, hvb, _⟩ := hv.bytes
  have H1 := Lib.hid (And.intro hb1 hvb)
  clear hv hb1 hvb
  go_wp2_with fail
  refine (RefScan_any va bs.length vc bs w1 H1.out.2 HLEN.out).mono ?_
  rintro e w2 ⟨lv, rfl, hls, hb2⟩
  rw [HSC.out] at hls ⊢
  obtain ⟨la, lc, rfl, _⟩ := hls.reads
  have H2 := Lib.hid (And.intro (H1.out.1.trans (hb2.mono H1.out.1.size)) (hls.base H1.out.1.size))
  have hrz := HR.out.1.later H2.out.1
  have HZ := Lib.hid (And.intro hrz (And.intro (HR.out.2.1.mono H2.out.1.size) (FR.of_below (x := none) H2.out.1 HR.out.2.2)))
  clear hls hb2 hrz
  have e1 : (c1 == 0) = true := by simpa using hc1
  have e1' : (c1 != 0) = false := by simpa using hc1
  clear hc1
  have e2 : (c2 == 0) = false := by simpa using hc2
  have e2' : (c2 != 0) = true := by simpa using hc2
  clear hc2
  go_wp2_with fail
  refine (HCT.out w2 HZ.out.1).mono ?_
  rintro e w3 ⟨rfl, hr3, hm3⟩
  have HY := Lib.hid (And.intro hr3 (And.intro (HZ.out.2.1.mono hm3.below.size) (HZ.out.2.2.trans (FR.of_moved (x := none) HZ.out.1 hm3))))
  have HLS3 := Lib.hid ((FR.of_moved (x := none) HZ.out.1 hm3).lists H2.out.2)
  clear hr3 hm3
  go_wp2_with fail
  refine (HSY.out w3 HY.out.1 HY.out.2.1).mono ?_
  rintro e w4 ⟨rfl, hr4, hm4⟩
  have HX := Lib.hid (And.intro hr4 (And.intro (HY.out.2.2.trans (FR.of_moved (x := none) HY.out.1 hm4)) ((FR.of_moved (x := none) HY.out.1 hm4).lists HLS3.out)))
  clear hr4 hm4
  go_wp2_with fail
  go_ret3
  exact ⟨_, _, rfl, HX.out.1, Lists.nil _ _, HX.out.2.1, .inl (by simp)⟩
set_option maxRecDepth 100000 in
set_option maxHeartbeats 1000000 in
theorem rOpen_torn [Zone] (nm : ByteArray) (base r q k : Nat) (g g2 g3 : Sig) (c1 c2 : Int) (bs : List UInt8) (recs : List (List UInt8)) (sz : Nat) (w : World) (hbs : base ≤ w.heap.size) (hr : RSig w r base g) (hzw : ZW w) (hlim : Lim q k g) (hfit : Fit g) (hq : q + 1 ≤ 4294967296) (hk : k + 2 ≤ 100000) (he : readG nm g = (0, bs)) (hs : Fr.scanF bs = (recs, sz, 1)) (h2 : cutG nm (sz : Nat) g = (c1, g2)) (hc1 : c1 = 0) (h3 : syncG nm g2 = (c2, g3)) (hc2 : c2 = 0) :
    Calls Tryz.prog 44 #[.pointer (some ⟨r, 0, none⟩), .string nm] w fun e w' => ROpenR (((0, some ⟨nm, (recs.length : Nat), (sz : Nat), false⟩, recs, g3) : Int × Option LSig × List (List UInt8) × Sig)) r base w e w' := by
  have HRD := Lib.hid (rRead_S nm r base q k g w hr ⟨hlim, by omega, by omega, hfit.1, hfit.2⟩)
  rw [he] at HRD
  have hlen : bs.length ≤ 4294967296 := by have := readG_len (s := nm) hlim; rw [he] at this; dsimp only at this; omega
  have HCT := Lib.hid (fun (w' : World) (hr' : RSig w' r base g) => rCut_S nm (sz : Nat) r base q k g w' hr' ⟨hlim, by omega, by omega, hfit.1, hfit.2⟩)
  rw [h2] at HCT
  have hl2 : Lim (q + 1) (k + 1) g2 := by have := hlim.cut (s := nm) (z := (sz : Nat)) (q' := q + 1) (k' := k + 1) (Nat.le_refl _) (Nat.le_refl _); rw [h2] at this; exact this
  have hf2 : Fit g2 := by have := hfit.cut hlim nm (sz : Nat) hq; rw [h2] at this; exact this
  have HSY := Lib.hid (fun (w' : World) (hr' : RSig w' r base g2) (hz : ZW w') => rSync_S nm r base (q + 1) (k + 1) g2 w' hr' ⟨hl2, by omega, by omega, hf2.1, hf2.2⟩ hz)
  rw [h3] at HSY
  clear hl2 hf2 h3
  have HR := Lib.hid (And.intro hr (And.intro hzw hbs))
  have HSC := Lib.hid hs
  have HLEN := Lib.hid hlen
  clear hlim hfit hr hzw hbs he hs hlen h2
  go_enter Tryz.func44, Tryz.ntmps44
  go_wp2_with fail
  refine HRD.out.mono ?_
  rintro e w1 ⟨v, rfl, hv, hb1⟩
  obtain ⟨va, vc, rfl, hvb, _⟩ := hv.bytes
  have H1 := Lib.hid (And.intro hb1 hvb)
  clear hv hb1 hvb
  go_wp2_with fail
  refine (RefScan_any va bs.length vc bs w1 H1.out.2 HLEN.out).mono ?_
  rintro e w2 ⟨lv, rfl, hls, hb2⟩
  rw [HSC.out] at hls ⊢
  obtain ⟨la, lc, rfl, _⟩ := hls.reads
  have H2 := Lib.hid (And.intro (H1.out.1.trans (hb2.mono H1.out.1.size)) (hls.base H1.out.1.size))
  have hrz := HR.out.1.later H2.out.1
  have HZ := Lib.hid (And.intro hrz (And.intro (HR.out.2.1.mono H2.out.1.size) (FR.of_below (x := none) H2.out.1 HR.out.2.2)))
  clear hls hb2 hrz
  have e1 : (c1 == 0) = true := by simpa using hc1
  have e1' : (c1 != 0) = false := by simpa using hc1
  clear hc1
  have e2 : (c2 == 0) = true := by simpa using hc2
  have e2' : (c2 != 0) = false := by simpa using hc2
  clear hc2
  go_wp2_with fail
  refine (HCT.out w2 HZ.out.1).mono ?_
  rintro e w3 ⟨rfl, hr3, hm3⟩
  have HY := Lib.hid (And.intro hr3 (And.intro (HZ.out.2.1.mono hm3.below.size) (HZ.out.2.2.trans (FR.of_moved (x := none) HZ.out.1 hm3))))
  have HLS3 := Lib.hid ((FR.of_moved (x := none) HZ.out.1 hm3).lists H2.out.2)
  clear hr3 hm3
  go_wp2_with fail
  refine (HSY.out w3 HY.out.1 HY.out.2.1).mono ?_
  rintro e w4 ⟨rfl, hr4, hm4⟩
  have HX := Lib.hid (And.intro hr4 (And.intro (HY.out.2.2.trans (FR.of_moved (x := none) HY.out.1 hm4)) ((FR.of_moved (x := none) HY.out.1 hm4).lists HLS3.out)))
  clear hr4 hm4
  go_wp2_with fail
  go_ret3
  have hal := (Below.refl w4.heap.size w4).alloc (Nat.le_refl _) (.cells #[.pointer (some ⟨r, 0, none⟩), .string nm, .int .i64 (recs.length : Nat), .int .i64 sz, .bool false] 69)
  exact ⟨_, _, rfl, HX.out.1.later hal, HX.out.2.2.later hal, HX.out.2.1.trans (FR.of_below hal (Nat.le_trans HR.out.2.2 HX.out.2.1.below.size)), .inr ⟨_, w4.heap.size, rfl, rfl, HX.out.2.1.below.size, heap_alloc_new _ _⟩⟩
set_option maxRecDepth 100000 in
set_option maxHeartbeats 1000000 in
theorem rOpen_wholes [Zone] (nm : ByteArray) (base r q k : Nat) (g g2 g3 : Sig) (c1 c2 : Int) (bs : List UInt8) (recs : List (List UInt8)) (sz : Nat) (w : World) (hbs : base ≤ w.heap.size) (hr : RSig w r base g) (hzw : ZW w) (hlim : Lim q k g) (hfit : Fit g) (hq : q + 1 ≤ 4294967296) (hk : k + 2 ≤ 100000) (he : readG nm g = (0, bs)) (hs : Fr.scanF bs = (recs, sz, 0)) (h2 : g2 = g) (h3 : syncG nm g2 = (c2, g3)) (hc2 : c2 ≠ 0) :
    Calls Tryz.prog 44 #[.pointer (some ⟨r, 0, none⟩), .string nm] w fun e w' => ROpenR (((c2, none, [], g3) : Int × Option LSig × List (List UInt8) × Sig)) r base w e w' := by
  have HRD := Lib.hid (rRead_S nm r base q k g w hr ⟨hlim, by omega, by omega, hfit.1, hfit.2⟩)
  rw [he] at HRD
  have hlen : bs.length ≤ 4294967296 := by have := readG_len (s := nm) hlim; rw [he] at this; dsimp only at this; omega
  subst h2
  have hl2 : Lim (q + 1) (k + 1) g2 := hlim.mono (by omega) (by omega)
  have hf2 : Fit g2 := hfit
  have HSY := Lib.hid (fun (w' : World) (hr' : RSig w' r base g2) (hz : ZW w') => rSync_S nm r base (q + 1) (k + 1) g2 w' hr' ⟨hl2, by omega, by omega, hf2.1, hf2.2⟩ hz)
  rw [h3] at HSY
  clear hl2 hf2 h3
  have HR := Lib.hid (And.intro hr (And.intro hzw hbs))
  have HSC := Lib.hid hs
  have HLEN := Lib.hid hlen
  clear hlim hfit hr hzw hbs he hs hlen
  go_enter Tryz.func44, Tryz.ntmps44
  go_wp2_with fail
  refine HRD.out.mono ?_
  rintro e w1 ⟨v, rfl, hv, hb1⟩
  obtain ⟨va, vc, rfl, hvb, _⟩ := hv.bytes
  have H1 := Lib.hid (And.intro hb1 hvb)
  clear hv hb1 hvb
  go_wp2_with fail
  refine (RefScan_any va bs.length vc bs w1 H1.out.2 HLEN.out).mono ?_
  rintro e w2 ⟨lv, rfl, hls, hb2⟩
  rw [HSC.out] at hls ⊢
  obtain ⟨la, lc, rfl, _⟩ := hls.reads
  have H2 := Lib.hid (And.intro (H1.out.1.trans (hb2.mono H1.out.1.size)) (hls.base H1.out.1.size))
  have hrz := HR.out.1.later H2.out.1
  have HZ := Lib.hid (And.intro hrz (And.intro (HR.out.2.1.mono H2.out.1.size) (FR.of_below (x := none) H2.out.1 HR.out.2.2)))
  clear hls hb2 hrz
  have e2 : (c2 == 0) = false := by simpa using hc2
  have e2' : (c2 != 0) = true := by simpa using hc2
  clear hc2
  go_wp2_with fail
  have HLS3 := Lib.hid H2.out.2
  refine (HSY.out w2 HZ.out.1 HZ.out.2.1).mono ?_
  rintro e w4 ⟨rfl, hr4, hm4⟩
  have HX := Lib.hid (And.intro hr4 (And.intro (HZ.out.2.2.trans (FR.of_moved (x := none) HZ.out.1 hm4)) ((FR.of_moved (x := none) HZ.out.1 hm4).lists HLS3.out)))
  clear hr4 hm4
  go_wp2_with fail
  go_ret3
  exact ⟨_, _, rfl, HX.out.1, Lists.nil _ _, HX.out.2.1, .inl (by simp)⟩
set_option maxRecDepth 100000 in
set_option maxHeartbeats 1000000 in
theorem rOpen_whole [Zone] (nm : ByteArray) (base r q k : Nat) (g g2 g3 : Sig) (c1 c2 : Int) (bs : List UInt8) (recs : List (List UInt8)) (sz : Nat) (w : World) (hbs : base ≤ w.heap.size) (hr : RSig w r base g) (hzw : ZW w) (hlim : Lim q k g) (hfit : Fit g) (hq : q + 1 ≤ 4294967296) (hk : k + 2 ≤ 100000) (he : readG nm g = (0, bs)) (hs : Fr.scanF bs = (recs, sz, 0)) (h2 : g2 = g) (h3 : syncG nm g2 = (c2, g3)) (hc2 : c2 = 0) :
    Calls Tryz.prog 44 #[.pointer (some ⟨r, 0, none⟩), .string nm] w fun e w' => ROpenR (((0, some ⟨nm, (recs.length : Nat), (sz : Nat), false⟩, recs, g3) : Int × Option LSig × List (List UInt8) × Sig)) r base w e w' := by
  have HRD := Lib.hid (rRead_S nm r base q k g w hr ⟨hlim, by omega, by omega, hfit.1, hfit.2⟩)
  rw [he] at HRD
  have hlen : bs.length ≤ 4294967296 := by have := readG_len (s := nm) hlim; rw [he] at this; dsimp only at this; omega
  subst h2
  have hl2 : Lim (q + 1) (k + 1) g2 := hlim.mono (by omega) (by omega)
  have hf2 : Fit g2 := hfit
  have HSY := Lib.hid (fun (w' : World) (hr' : RSig w' r base g2) (hz : ZW w') => rSync_S nm r base (q + 1) (k + 1) g2 w' hr' ⟨hl2, by omega, by omega, hf2.1, hf2.2⟩ hz)
  rw [h3] at HSY
  clear hl2 hf2 h3
  have HR := Lib.hid (And.intro hr (And.intro hzw hbs))
  have HSC := Lib.hid hs
  have HLEN := Lib.hid hlen
  clear hlim hfit hr hzw hbs he hs hlen
  go_enter Tryz.func44, Tryz.ntmps44
  go_wp2_with fail
  refine HRD.out.mono ?_
  rintro e w1 ⟨v, rfl, hv, hb1⟩
  obtain ⟨va, vc, rfl, hvb, _⟩ := hv.bytes
  have H1 := Lib.hid (And.intro hb1 hvb)
  clear hv hb1 hvb
  go_wp2_with fail
  refine (RefScan_any va bs.length vc bs w1 H1.out.2 HLEN.out).mono ?_
  rintro e w2 ⟨lv, rfl, hls, hb2⟩
  rw [HSC.out] at hls ⊢
  obtain ⟨la, lc, rfl, _⟩ := hls.reads
  have H2 := Lib.hid (And.intro (H1.out.1.trans (hb2.mono H1.out.1.size)) (hls.base H1.out.1.size))
  have hrz := HR.out.1.later H2.out.1
  have HZ := Lib.hid (And.intro hrz (And.intro (HR.out.2.1.mono H2.out.1.size) (FR.of_below (x := none) H2.out.1 HR.out.2.2)))
  clear hls hb2 hrz
  have e2 : (c2 == 0) = true := by simpa using hc2
  have e2' : (c2 != 0) = false := by simpa using hc2
  clear hc2
  go_wp2_with fail
  have HLS3 := Lib.hid H2.out.2
  refine (HSY.out w2 HZ.out.1 HZ.out.2.1).mono ?_
  rintro e w4 ⟨rfl, hr4, hm4⟩
  have HX := Lib.hid (And.intro hr4 (And.intro (HZ.out.2.2.trans (FR.of_moved (x := none) HZ.out.1 hm4)) ((FR.of_moved (x := none) HZ.out.1 hm4).lists HLS3.out)))
  clear hr4 hm4
  go_wp2_with fail
  go_ret3
  have hal := (Below.refl w4.heap.size w4).alloc (Nat.le_refl _) (.cells #[.pointer (some ⟨r, 0, none⟩), .string nm, .int .i64 (recs.length : Nat), .int .i64 sz, .bool false] 69)
  exact ⟨_, _, rfl, HX.out.1.later hal, HX.out.2.2.later hal, HX.out.2.1.trans (FR.of_below hal (Nat.le_trans HR.out.2.2 HX.out.2.1.below.size)), .inr ⟨_, w4.heap.size, rfl, rfl, HX.out.2.1.below.size, heap_alloc_new _ _⟩⟩
theorem rOpen_S [Zone] (nm : ByteArray) (hss : nm.size ≤ 1099511627776) (base r q k : Nat) (g : Sig) (w : World) (hbs : base ≤ w.heap.size) (hr : RSig w r base g) (hzw : ZW w) (hlim : Lim q k g) (hfit : Fit g) (hq : q + 1 ≤ 4294967296) (hk : k + 2 ≤ 100000) :
    Calls Tryz.prog 44 #[.pointer (some ⟨r, 0, none⟩), .string nm] w fun e w' => ROpenR (openG nm g) r base w e w' := by
  by_cases h6 : (readG nm g).1 = 6
  · exact rOpen_fresh nm hss base r q k g w hbs hr hzw hlim hfit hq hk h6
  obtain ⟨er, bs, he⟩ : ∃ c b, readG nm g = (c, b) := ⟨_, _, rfl⟩
  rw [he] at h6
  by_cases h0 : er = 0
  case neg => exact rOpen_out nm base r q k g er w hbs hr hlim hfit hq hk (by rw [he]) h6 h0
  subst h0
  obtain ⟨recs, sz, rest, hs⟩ : ∃ a b c, Fr.scanF bs = (a, b, c) := ⟨_, _, _, rfl⟩
  have hrest : rest ≤ 2 := by
    obtain ⟨s1, _, _⟩ := scan_rest _ bs (Nat.lt_succ_self _)
    rw [hs] at s1
    exact s1
  by_cases r2 : rest = 2
  · subst r2
    obtain ⟨c2, g3, h3⟩ : ∃ c g3, syncG nm g = (c, g3) := ⟨_, _, rfl⟩
    rw [openG_old he hs (c1 := 4) (g2 := g) (by rw [if_pos rfl]) h3, if_pos (by omega)]
    exact rOpen_bad nm base r q k g g g 0 0 bs recs sz w hbs hr hzw hlim hfit hq hk he hs
  by_cases r1 : rest = 1
  · subst r1
    obtain ⟨c1, g2, h2⟩ : ∃ c g2, cutG nm (sz : Nat) g = (c, g2) := ⟨_, _, rfl⟩
    obtain ⟨c2, g3, h3⟩ : ∃ c g3, syncG nm g2 = (c, g3) := ⟨_, _, rfl⟩
    rw [openG_old he hs (c1 := c1) (g2 := g2) (by rw [if_neg (by omega), if_pos rfl, h2]) h3]
    by_cases hc1 : c1 = 0
    · rw [if_neg (by omega)]
      by_cases hc2 : c2 = 0
      · rw [if_neg (by omega)]
        exact rOpen_torn nm base r q k g g2 g3 c1 c2 bs recs sz w hbs hr hzw hlim hfit hq hk he hs h2 hc1 h3 hc2
      · rw [if_pos hc2]
        exact rOpen_torns nm base r q k g g2 g3 c1 c2 bs recs sz w hbs hr hzw hlim hfit hq hk he hs h2 hc1 h3 hc2
    · rw [if_pos hc1]
      exact rOpen_cut nm base r q k g g2 g2 c1 0 bs recs sz w hbs hr hzw hlim hfit hq hk he hs h2 hc1
  · obtain rfl : rest = 0 := by omega
    obtain ⟨c2, g3, h3⟩ : ∃ c g3, syncG nm g = (c, g3) := ⟨_, _, rfl⟩
    rw [openG_old he hs (c1 := 0) (g2 := g) (by rw [if_neg (by omega), if_neg (by omega)]) h3, if_neg (by omega)]
    by_cases hc2 : c2 = 0
    · rw [if_neg (by omega)]
      exact rOpen_whole nm base r q k g g g3 0 c2 bs recs sz w hbs hr hzw hlim hfit hq hk he hs rfl h3 hc2
    · rw [if_pos hc2]
      exact rOpen_wholes nm base r q k g g g3 0 c2 bs recs sz w hbs hr hzw hlim hfit hq hk he hs rfl h3 hc2
end Go.Proofs.YtjkkfjmloleedaaGreat
