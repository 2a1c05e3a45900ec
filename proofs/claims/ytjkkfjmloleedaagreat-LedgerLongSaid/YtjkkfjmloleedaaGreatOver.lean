/- the reference's ledger: Add, outcome by outcome -/
import Derived.Test.YtjkkfjmloleedaaGreatLOpen1
import Derived.Test.YtjkkfjmloleedaaGreatDBad
import Derived.Test.YtjkkfjmloleedaaGreatRefPut
import Derived.Test.YtjkkfjmloleedaaGreatKit
set_option linter.unusedSimpArgs false
set_option linter.unusedVariables false
namespace Go.Proofs.YtjkkfjmloleedaaGreat
open Go.RowKit
set_option linter.unusedSectionVars false
/-- every cut of a file lies within what there is; there are 16 files at most. -/
def Fit (g : Sig) : Prop := (∀ x ∈ g.R, FitF x) ∧ g.R.length ≤ 16
theorem Fit.done {g : Sig} {R' : List FileV} (h : Fit g) (h1 : ∀ x ∈ R', FitF x) (h2 : R'.length ≤ 16) : Fit (doneG g R').2 := by
  unfold doneG
  split
  · exact h
  · exact ⟨h1, h2⟩
theorem Fit.get {g : Sig} (h : Fit g) (i : Nat) : FitF (g.R.getD i f0) := by
  by_cases hi : i < g.R.length
  · exact h.1 _ (getD_mem' hi)
  · rw [List.getD_eq_getElem?_getD, List.getElem?_eq_none (by omega)]
    exact fit0
theorem Fit.app {q k : Nat} {g : Sig} (h : Fit g) (hl : Lim q k g) (s : ByteArray) (B : List UInt8) (hq : q + B.length ≤ 4294967296) : Fit (appG s B g).2 := by
  have ha := addB_lim B
  unfold appG
  split
  · exact h
  split
  · exact h
  split
  · split
    · exact h
    · rename_i h16
      split
      · exact h
      · refine h.done (fun x hx => ?_) (by rw [insF_length _ (insK_is s g.R).1]; omega)
        rcases mem_insF.1 hx with rfl | hx
        · refine ⟨?_, by show [].length + unitsD (addB B) ≤ _; simp; omega⟩
          unfold addB
          split <;> trivial
        · exact h.1 x hx
  · split
    · exact h
    · refine h.done (fun x hx => ?_) (by rw [List.length_set]; exact h.2)
      rcases List.mem_or_eq_of_mem_set hx with r | r
      · exact h.1 x r
      · have hg := h.get (atZ s g.R).toNat
        have hl2 := hl.get (atZ s g.R).toNat
        rw [r]
        refine ⟨?_, ?_⟩
        · show fitsD _ (_ ++ addB B)
          unfold addB
          split
          · rw [List.append_nil]; exact hg.1
          · exact fitsD_more _ _ _ hg.1
        · show (g.R.getD (atZ s g.R).toNat f0).2.1.length + unitsD ((g.R.getD (atZ s g.R).toNat f0).2.2 ++ addB B) ≤ _
          rw [unitsD_app]
          omega
theorem Fit.cut {q k : Nat} {g : Sig} (h : Fit g) (hl : Lim q k g) (s : ByteArray) (z : Int) (hq : q + 1 ≤ 4294967296) : Fit (cutG s z g).2 := by
  unfold cutG
  split
  · exact h
  split
  · exact h
  split
  · exact h
  rename_i hz
  refine h.done (fun x hx => ?_) (by rw [List.length_set]; exact h.2)
  rcases List.mem_or_eq_of_mem_set hx with r | r
  · exact h.1 x r
  · have hg := h.get (atZ s g.R).toNat
    have hl2 := hl.get (atZ s g.R).toNat
    rw [r]
    refine ⟨show fitsD (g.R.getD (atZ s g.R).toNat f0).2.1 ((g.R.getD (atZ s g.R).toNat f0).2.2 ++ [Deed.cut z.toNat]) from fits_cut _ _ _ hg.1 (by omega), ?_⟩
    show (g.R.getD (atZ s g.R).toNat f0).2.1.length + unitsD ((g.R.getD (atZ s g.R).toNat f0).2.2 ++ [Deed.cut z.toNat]) ≤ _
    rw [unitsD_app]
    have e : unitsD [Deed.cut z.toNat] = 1 := by simp [unitsD, Deed.units]
    omega
theorem FR.at {base l off : Nat} {w w1 : World} {v : Value} {c : Array Value} {t : TypeId} {fr : Nat × Nat} (h : FR base (some l) w w1) (hl : w.heap[l]? = some (.cells c t fr)) (hp : ∀ u ∈ c.toList, plainV u = true) (hb : base ≤ l) : FR base (some l) w (w1.setCell ⟨l, off, none⟩ v) := by
  refine ⟨h.below.setCell (p := ⟨l, off, none⟩) hb v, fun j cs ty f hj ht hx => ?_, fun j es cl hj => ?_, fun j o u hc => ?_⟩
  · exact (Below.heap_setCell _ _ _ _ (fun e => hx (by rw [e]))).trans (h.cells j cs ty f hj ht hx)
  · refine (Below.heap_setCell _ _ _ _ (fun e => ?_)).trans (h.map j es cl hj)
    have e : j = l := e
    subst e
    rw [hl] at hj
    cases hj
  · refine (Below.heap_setCell _ _ _ _ (fun e => ?_)).trans (h.u8 j o u hc)
    have e : j = l := e
    subst e
    exact not_u8_of hl hp hc
theorem RLedRow.plain {w : World} {l d : Nat} {nm : ByteArray} {n sz : Int} {br : Bool} (_ : RLedRow w l d nm n sz br) : ∀ u ∈ (#[.pointer (some ⟨d, 0, none⟩), .string nm, .int .i64 n, .int .i64 sz, .bool br] : Array Value).toList, plainV u = true := by simp [plainV]
theorem RLedRow.later {w w' : World} {l d : Nat} {nm : ByteArray} {n sz : Int} {br : Bool} (h : RLedRow w l d nm n sz br) (hb : Below w.heap.size w w') : RLedRow w' l d nm n sz br := (hb.block l (heap_lt h)).trans h
theorem RLedRow.fr {w w' : World} {base l d : Nat} {nm : ByteArray} {n sz : Int} {br : Bool} (h : RLedRow w l d nm n sz br) (k : FR base none w w') : RLedRow w' l d nm n sz br := k.cells _ _ _ _ h (by unfold TR; decide) (by simp)
theorem bytes_keptR [Zone] {w w' : World} {r base : Nat} {g : Sig} {ao : Option Addr} {n cap : Nat} {l : List UInt8} (h : IsBytes w ao n cap l) (hr : RSig w r base g) (hm : MovedR r base w w') : IsBytes w' ao n cap l :=
  h.moved fun j off v hc => RefAt.kept_u8 hr hm hc
/-- what the reference's Add tells. -/
def RAddR [Zone] (o : Int × LSig × Sig) (r base m : Nat) (w : World) (e : Ending) (w' : World) : Prop :=
  e = .returned (.int .i64 o.1) ∧ RSig w' r base o.2.2 ∧ RLedRow w' m r o.2.1.nm o.2.1.n o.2.1.size o.2.1.br ∧ FR base (some m) w w'
/-- the memory at its end. -/
structure RFin [Zone] (w w6 : World) (r base m : Nat) (nm : ByteArray) (n z : Int) (br : Bool) (g : Sig) : Prop where
  rs : RSig w6 r base g
  row : RLedRow w6 m r nm n z br
  fr : FR base (some m) w w6
theorem RFin.set [Zone] {w w6 : World} {r base m : Nat} {nm nm' : ByteArray} {n z n' z' n9 z9 : Int} {br br' br9 : Bool} {g : Sig} {off : Nat} {v : Value} (h : RFin w w6 r base m nm n z br g) (hl : RLedRow w m r nm' n9 z9 br9) (hb : base ≤ m)
    (hrow : (w6.setCell ⟨m, off, none⟩ v).heap[m]? = some (.cells #[.pointer (some ⟨r, 0, none⟩), .string nm, .int .i64 n', .int .i64 z', .bool br'] 69 (0, 0))) : RFin w (w6.setCell ⟨m, off, none⟩ v) r base m nm n' z' br' g :=
  ⟨RSig.fr h.rs h.row (by simp [plainV]) ⟨by unfold TR; decide, by decide⟩, hrow, FR.at h.fr hl hl.plain hb⟩
set_option maxRecDepth 100000 in
theorem rAdd_br [Zone] (base r m : Nat) (L : LSig) (g : Sig) (ao : Option Addr) (n cap : Nat) (B : List UInt8) (w : World) (hl : RLedRow w m r L.nm L.n L.size L.br) (hr : RSig w r base g) (hbr : L.br = true) :
    Calls Tryz.prog 14 #[.pointer (some ⟨m, 0, none⟩), .slice ao n cap] w fun e w' => RAddR (addG B L g) r base m w e w' := by
  unfold addG
  rw [if_pos hbr]
  have HL := Lib.hid (show RAddR (9, L, g) r base m w (.returned (.int .i64 9)) w from ⟨rfl, hr, hl, FR.refl _ _ _⟩)
  rw [hbr] at hl
  obtain ⟨l0, l1, l2, l3, l4⟩ := hl.cells
  clear hl hr hbr l0 l1 l2 l3
  go_enter Tryz.func14, Tryz.ntmps14
  go_wp2_with fail
  go_ret
  exact HL.out
set_option maxRecDepth 100000 in
theorem rAdd_long [Zone] (base r m : Nat) (L : LSig) (g : Sig) (ao : Option Addr) (n cap : Nat) (B : List UInt8) (w : World) (hl : RLedRow w m r L.nm L.n L.size L.br) (hr : RSig w r base g) (hbr : L.br = false) (hBl : B.length = n) (hm : 65536 < n) (hm2 : n ≤ 9223372036854775807) :
    Calls Tryz.prog 14 #[.pointer (some ⟨m, 0, none⟩), .slice ao n cap] w fun e w' => RAddR (addG B L g) r base m w e w' := by
  unfold addG
  rw [if_neg (by rw [hbr]; simp), if_pos (by omega)]
  have HL := Lib.hid (show RAddR (3, L, g) r base m w (.returned (.int .i64 3)) w from ⟨rfl, hr, hl, FR.refl _ _ _⟩)
  rw [hbr] at hl
  obtain ⟨l0, l1, l2, l3, l4⟩ := hl.cells
  clear hl hr hbr l0 l1 l2 l3
  go_enter Tryz.func14, Tryz.ntmps14
  go_wp2_with fail
  refine (refPut_long ao n cap w hm hm2).mono ?_
  rintro e w' ⟨rfl, rfl⟩
  go_wp2_with fail
  go_ret
  exact HL.out
set_option maxRecDepth 100000 in
set_option maxHeartbeats 2000000 in
theorem rAdd_full [Zone] (base r m q k : Nat) (L : LSig) (g g1 g2 : Sig) (c1 c2 : Int) (ao : Option Addr) (n cap : Nat) (B : List UInt8) (w : World) (hss : L.nm.size ≤ 1099511627776) (hbl : base ≤ m) (hl : RLedRow w m r L.nm L.n L.size L.br) (hr : RSig w r base g) (hzw : ZW w) (hB : IsBytes w ao n cap B) (hbr : L.br = false)
    (hlim : Lim q k g) (hfit : Fit g) (hLl : LLim q L) (hq : q + n + 13 ≤ 4294967296) (hk : k + 2 ≤ 100000) (hm : n ≤ 65536) (h1 : appG L.nm (Fr.putF B) g = (c1, g1)) (h2 : syncG L.nm g1 = (c2, g2)) (hc1 : c1 = 3) :
    Calls Tryz.prog 14 #[.pointer (some ⟨m, 0, none⟩), .slice ao n cap] w fun e w' => RAddR (addG B L g) r base m w e w' := by
  have hBl := hB.1
  have HO := Lib.hid (show addG B L g = (8, L, g1) from by unfold addG; rw [if_neg (by rw [hbr]; simp), if_neg (by omega), h1, if_pos hc1])
  have hn0 := hLl.n0
  have hn1 := hLl.n1
  have hz0 := hLl.s0
  have hz1 := hLl.s1
  have hl1 : Lim (q + n + 12) (k + 1) g1 := by have := hlim.app (s := L.nm) (B := Fr.putF B) (q' := q + n + 12) (k' := k + 1) (by rw [putF_len]; omega) (Nat.le_refl _); rw [h1] at this; exact this
  have hf1 : Fit g1 := by have := hfit.app hlim L.nm (Fr.putF B) (by rw [putF_len]; omega); rw [h1] at this; exact this
  have HAP := Lib.hid (fun (va : Option Addr) (K vc : Nat) (w' : World) (hr' : RSig w' r base g) (hz : ZW w') (hv : IsBytes w' va K vc (Fr.putF B)) => rAppend_S L.nm hss r base q k g va K vc (Fr.putF B) w' hr' ⟨hlim, by omega, by omega, hfit.1, hfit.2⟩ hz hv (fun wa wb ha hb => bytes_keptR (hv.later ha) (hr'.later ha) hb) (by have h9 := hv.1; rw [putF_len] at h9; omega))
  have HSY := Lib.hid (fun (w' : World) (hr' : RSig w' r base g1) (hz : ZW w') => rSync_S L.nm r base (q + n + 12) (k + 1) g1 w' hr' ⟨hl1, by omega, by omega, hf1.1, hf1.2⟩ hz)
  rw [h1] at HAP
  rw [h2] at HSY
  obtain ⟨nm, ln, sz, br⟩ := L
  dsimp only at hl hbr hn0 hn1 hz0 hz1 HAP HSY HO
  subst hbr
  have HL := Lib.hid hl
  have HR := Lib.hid (And.intro hr hzw)
  have HS := Lib.hid (And.intro hbl hBl)
  have HLE : Hid (ln + 1 ≤ 4294967296 ∧ sz + n + 12 ≤ 8589934592) := Lib.hid (by omega)
  obtain ⟨l0, l1, l2, l3, l4⟩ := hl.cells
  have HB := Lib.hid hB
  clear hl hr hB hlim hfit hLl hl1 hf1 h1 h2 hss hBl hk hbl hzw l0 l1 l2 l3
  go_enter Tryz.func14, Tryz.ntmps14
  go_wp2_with fail
  refine (refPut_any ao n cap B w HB.out hm).mono ?_
  rintro e w1 ⟨v, rfl, hown, hb1⟩
  obtain ⟨va, vc, hv, hvb, _⟩ := hown.bytes
  obtain ⟨K, hK⟩ : ∃ K, K = (Fr.putF B).length := ⟨_, rfl⟩
  rw [← hK] at hv hvb
  subst hv
  have hlw1 := HL.out.later hb1
  have H1 := Lib.hid (And.intro hb1 (And.intro hvb (And.intro hK (And.intro hlw1 (HR.out.1.later hb1)))))
  obtain ⟨k0, k1, _, _, _⟩ := hlw1.cells
  clear hown hb1 hvb hK hlw1
  go_wp2_with fail
  go_region_held3 (fun w' => w'.cell? ⟨m, 0, none⟩ = some (.pointer (some ⟨r, 0, none⟩)) ∧ w'.cell? ⟨m, 1, none⟩ = some (.string nm))
    (first
      | (exact ⟨k0, k1⟩)
      | (exact ⟨q0, q1⟩))
    (first
      | (go_at_call 21
         refine (HAP.out va K vc w1.drew (H1.out.2.2.2.2.later (Below.refl _ _).drew) (HR.out.2.mono H1.out.1.size) (H1.out.2.1.later (Below.refl _ _).drew)).mono ?_
         rintro e w4 ⟨rfl, hr4, hm4⟩
         have hfk4 : FR base none w1.drew w4 := FR.of_moved (H1.out.2.2.2.2.later (Below.refl _ _).drew) hm4
         have hl4 : RLedRow w4 m r nm ln sz false := RLedRow.fr (w := w1.drew) H1.out.2.2.2.1 hfk4
         have q0 := hl4.cells.1
         have q1 := hl4.cells.2.1))
  all_goals
    go_split_ands
    have hbw : base ≤ w.heap.size := by have := HS.out.1; have := heap_lt HL.out; omega
    have hf4 : FR base none w w4 := (FR.of_below (H1.out.1.trans (Below.refl _ w1).drew) hbw).trans hfk4
    have HW4 := Lib.hid (And.intro hl4 (And.intro hr4 (And.intro hf4 hbw)))
    have z4 : w4.frozen? ⟨m, 4, none⟩ = false := frozen_of_row _ _ _ _ _ hl4
    obtain ⟨_, _, r2, r3, r4⟩ := hl4.cells
    clear hl4 hr4 hf4 hfk4 hm4 hbw
    subst hc1
    go_wp2_with fail
    go_ret
    rw [HO.out]
    exact ⟨rfl, HW4.out.2.1, HW4.out.1, HW4.out.2.2.1.wide _⟩
set_option maxRecDepth 100000 in
set_option maxHeartbeats 2000000 in
theorem rAdd_fail [Zone] (base r m q k : Nat) (L : LSig) (g g1 g2 : Sig) (c1 c2 : Int) (ao : Option Addr) (n cap : Nat) (B : List UInt8) (w : World) (hss : L.nm.size ≤ 1099511627776) (hbl : base ≤ m) (hl : RLedRow w m r L.nm L.n L.size L.br) (hr : RSig w r base g) (hzw : ZW w) (hB : IsBytes w ao n cap B) (hbr : L.br = false)
    (hlim : Lim q k g) (hfit : Fit g) (hLl : LLim q L) (hq : q + n + 13 ≤ 4294967296) (hk : k + 2 ≤ 100000) (hm : n ≤ 65536) (h1 : appG L.nm (Fr.putF B) g = (c1, g1)) (h2 : syncG L.nm g1 = (c2, g2)) (hc1 : c1 ≠ 3) (hc0 : c1 ≠ 0) :
    Calls Tryz.prog 14 #[.pointer (some ⟨m, 0, none⟩), .slice ao n cap] w fun e w' => RAddR (addG B L g) r base m w e w' := by
  have hBl := hB.1
  have HO := Lib.hid (show addG B L g = (c1, ⟨L.nm, L.n, L.size, true⟩, g1) from by unfold addG; rw [if_neg (by rw [hbr]; simp), if_neg (by omega), h1, if_neg hc1, if_pos hc0])
  have hn0 := hLl.n0
  have hn1 := hLl.n1
  have hz0 := hLl.s0
  have hz1 := hLl.s1
  have hl1 : Lim (q + n + 12) (k + 1) g1 := by have := hlim.app (s := L.nm) (B := Fr.putF B) (q' := q + n + 12) (k' := k + 1) (by rw [putF_len]; omega) (Nat.le_refl _); rw [h1] at this; exact this
  have hf1 : Fit g1 := by have := hfit.app hlim L.nm (Fr.putF B) (by rw [putF_len]; omega); rw [h1] at this; exact this
  have HAP := Lib.hid (fun (va : Option Addr) (K vc : Nat) (w' : World) (hr' : RSig w' r base g) (hz : ZW w') (hv : IsBytes w' va K vc (Fr.putF B)) => rAppend_S L.nm hss r base q k g va K vc (Fr.putF B) w' hr' ⟨hlim, by omega, by omega, hfit.1, hfit.2⟩ hz hv (fun wa wb ha hb => bytes_keptR (hv.later ha) (hr'.later ha) hb) (by have h9 := hv.1; rw [putF_len] at h9; omega))
  have HSY := Lib.hid (fun (w' : World) (hr' : RSig w' r base g1) (hz : ZW w') => rSync_S L.nm r base (q + n + 12) (k + 1) g1 w' hr' ⟨hl1, by omega, by omega, hf1.1, hf1.2⟩ hz)
  rw [h1] at HAP
  rw [h2] at HSY
  obtain ⟨nm, ln, sz, br⟩ := L
  dsimp only at hl hbr hn0 hn1 hz0 hz1 HAP HSY HO
  subst hbr
  have HL := Lib.hid hl
  have HR := Lib.hid (And.intro hr hzw)
  have HS := Lib.hid (And.intro hbl hBl)
  have HLE : Hid (ln + 1 ≤ 4294967296 ∧ sz + n + 12 ≤ 8589934592) := Lib.hid (by omega)
  obtain ⟨l0, l1, l2, l3, l4⟩ := hl.cells
  have HB := Lib.hid hB
  clear hl hr hB hlim hfit hLl hl1 hf1 h1 h2 hss hBl hk hbl hzw l0 l1 l2 l3
  go_enter Tryz.func14, Tryz.ntmps14
  go_wp2_with fail
  refine (refPut_any ao n cap B w HB.out hm).mono ?_
  rintro e w1 ⟨v, rfl, hown, hb1⟩
  obtain ⟨va, vc, hv, hvb, _⟩ := hown.bytes
  obtain ⟨K, hK⟩ : ∃ K, K = (Fr.putF B).length := ⟨_, rfl⟩
  rw [← hK] at hv hvb
  subst hv
  have hlw1 := HL.out.later hb1
  have H1 := Lib.hid (And.intro hb1 (And.intro hvb (And.intro hK (And.intro hlw1 (HR.out.1.later hb1)))))
  obtain ⟨k0, k1, _, _, _⟩ := hlw1.cells
  clear hown hb1 hvb hK hlw1
  go_wp2_with fail
  go_region_held3 (fun w' => w'.cell? ⟨m, 0, none⟩ = some (.pointer (some ⟨r, 0, none⟩)) ∧ w'.cell? ⟨m, 1, none⟩ = some (.string nm))
    (first
      | (exact ⟨k0, k1⟩)
      | (exact ⟨q0, q1⟩))
    (first
      | (go_at_call 21
         refine (HAP.out va K vc w1.drew (H1.out.2.2.2.2.later (Below.refl _ _).drew) (HR.out.2.mono H1.out.1.size) (H1.out.2.1.later (Below.refl _ _).drew)).mono ?_
         rintro e w4 ⟨rfl, hr4, hm4⟩
         have hfk4 : FR base none w1.drew w4 := FR.of_moved (H1.out.2.2.2.2.later (Below.refl _ _).drew) hm4
         have hl4 : RLedRow w4 m r nm ln sz false := RLedRow.fr (w := w1.drew) H1.out.2.2.2.1 hfk4
         have q0 := hl4.cells.1
         have q1 := hl4.cells.2.1))
  all_goals
    go_split_ands
    have hbw : base ≤ w.heap.size := by have := HS.out.1; have := heap_lt HL.out; omega
    have hf4 : FR base none w w4 := (FR.of_below (H1.out.1.trans (Below.refl _ w1).drew) hbw).trans hfk4
    have HW4 := Lib.hid (And.intro hl4 (And.intro hr4 (And.intro hf4 hbw)))
    have z4 : w4.frozen? ⟨m, 4, none⟩ = false := frozen_of_row _ _ _ _ _ hl4
    obtain ⟨_, _, r2, r3, r4⟩ := hl4.cells
    clear hl4 hr4 hf4 hfk4 hm4 hbw
    have e0 : (c1 == 0) = false := by simpa using hc0
    have e0' : (c1 != 0) = true := by simpa using hc0
    have e3 : (c1 == 3) = false := by simpa using hc1
    clear hc0 hc1
    go_wp2_with fail
    go_ret
    have hfin := RFin.set (off := 4) (v := .bool true) (⟨HW4.out.2.1, HW4.out.1, HW4.out.2.2.1.wide _⟩ : RFin w w4 r base m nm ln sz false g1) HL.out HS.out.1 (heap_setCell_same w4 m 4 _ _ (.bool true) HW4.out.1)
    rw [HO.out]
    exact ⟨rfl, hfin.rs, hfin.row, hfin.fr⟩
set_option maxRecDepth 100000 in
set_option maxHeartbeats 2000000 in
theorem rAdd_sfail [Zone] (base r m q k : Nat) (L : LSig) (g g1 g2 : Sig) (c1 c2 : Int) (ao : Option Addr) (n cap : Nat) (B : List UInt8) (w : World) (hss : L.nm.size ≤ 1099511627776) (hbl : base ≤ m) (hl : RLedRow w m r L.nm L.n L.size L.br) (hr : RSig w r base g) (hzw : ZW w) (hB : IsBytes w ao n cap B) (hbr : L.br = false)
    (hlim : Lim q k g) (hfit : Fit g) (hLl : LLim q L) (hq : q + n + 13 ≤ 4294967296) (hk : k + 2 ≤ 100000) (hm : n ≤ 65536) (h1 : appG L.nm (Fr.putF B) g = (c1, g1)) (h2 : syncG L.nm g1 = (c2, g2)) (hc0 : c1 = 0) (hc2 : c2 ≠ 0) :
    Calls Tryz.prog 14 #[.pointer (some ⟨m, 0, none⟩), .slice ao n cap] w fun e w' => RAddR (addG B L g) r base m w e w' := by
  have hBl := hB.1
  have HO := Lib.hid (show addG B L g = (c2, ⟨L.nm, L.n, L.size, true⟩, g2) from by unfold addG; rw [if_neg (by rw [hbr]; simp), if_neg (by omega), h1, if_neg (by dsimp only; omega), if_neg (by dsimp only; omega)]; dsimp only; rw [h2, if_pos hc2])
  have hn0 := hLl.n0
  have hn1 := hLl.n1
  have hz0 := hLl.s0
  have hz1 := hLl.s1
  have hl1 : Lim (q + n + 12) (k + 1) g1 := by have := hlim.app (s := L.nm) (B := Fr.putF B) (q' := q + n + 12) (k' := k + 1) (by rw [putF_len]; omega) (Nat.le_refl _); rw [h1] at this; exact this
  have hf1 : Fit g1 := by have := hfit.app hlim L.nm (Fr.putF B) (by rw [putF_len]; omega); rw [h1] at this; exact this
  have HAP := Lib.hid (fun (va : Option Addr) (K vc : Nat) (w' : World) (hr' : RSig w' r base g) (hz : ZW w') (hv : IsBytes w' va K vc (Fr.putF B)) => rAppend_S L.nm hss r base q k g va K vc (Fr.putF B) w' hr' ⟨hlim, by omega, by omega, hfit.1, hfit.2⟩ hz hv (fun wa wb ha hb => bytes_keptR (hv.later ha) (hr'.later ha) hb) (by have h9 := hv.1; rw [putF_len] at h9; omega))
  have HSY := Lib.hid (fun (w' : World) (hr' : RSig w' r base g1) (hz : ZW w') => rSync_S L.nm r base (q + n + 12) (k + 1) g1 w' hr' ⟨hl1, by omega, by omega, hf1.1, hf1.2⟩ hz)
  rw [h1] at HAP
  rw [h2] at HSY
  obtain ⟨nm, ln, sz, br⟩ := L
  dsimp only at hl hbr hn0 hn1 hz0 hz1 HAP HSY HO
  subst hbr
  have HL := Lib.hid hl
  have HR := Lib.hid (And.intro hr hzw)
  have HS := Lib.hid (And.intro hbl hBl)
  have HLE : Hid (ln + 1 ≤ 4294967296 ∧ sz + n + 12 ≤ 8589934592) := Lib.hid (by omega)
  obtain ⟨l0, l1, l2, l3, l4⟩ := hl.cells
  have HB := Lib.hid hB
  clear hl hr hB hlim hfit hLl hl1 hf1 h1 h2 hss hBl hk hbl hzw l0 l1 l2 l3
  go_enter Tryz.func14, Tryz.ntmps14
  go_wp2_with fail
  refine (refPut_any ao n cap B w HB.out hm).mono ?_
  rintro e w1 ⟨v, rfl, hown, hb1⟩
  obtain ⟨va, vc, hv, hvb, _⟩ := hown.bytes
  obtain ⟨K, hK⟩ : ∃ K, K = (Fr.putF B).length := ⟨_, rfl⟩
  rw [← hK] at hv hvb
  subst hv
  have hlw1 := HL.out.later hb1
  have H1 := Lib.hid (And.intro hb1 (And.intro hvb (And.intro hK (And.intro hlw1 (HR.out.1.later hb1)))))
  obtain ⟨k0, k1, _, _, _⟩ := hlw1.cells
  clear hown hb1 hvb hK hlw1
  go_wp2_with fail
  go_region_held3 (fun w' => w'.cell? ⟨m, 0, none⟩ = some (.pointer (some ⟨r, 0, none⟩)) ∧ w'.cell? ⟨m, 1, none⟩ = some (.string nm))
    (first
      | (exact ⟨k0, k1⟩)
      | (exact ⟨q0, q1⟩))
    (first
      | (go_at_call 21
         refine (HAP.out va K vc w1.drew (H1.out.2.2.2.2.later (Below.refl _ _).drew) (HR.out.2.mono H1.out.1.size) (H1.out.2.1.later (Below.refl _ _).drew)).mono ?_
         rintro e w4 ⟨rfl, hr4, hm4⟩
         have hfk4 : FR base none w1.drew w4 := FR.of_moved (H1.out.2.2.2.2.later (Below.refl _ _).drew) hm4
         have hl4 : RLedRow w4 m r nm ln sz false := RLedRow.fr (w := w1.drew) H1.out.2.2.2.1 hfk4
         have q0 := hl4.cells.1
         have q1 := hl4.cells.2.1))
  all_goals
    go_split_ands
    have hbw : base ≤ w.heap.size := by have := HS.out.1; have := heap_lt HL.out; omega
    have hf4 : FR base none w w4 := (FR.of_below (H1.out.1.trans (Below.refl _ w1).drew) hbw).trans hfk4
    have HW4 := Lib.hid (And.intro hl4 (And.intro hr4 (And.intro hf4 hbw)))
    have z4 : w4.frozen? ⟨m, 4, none⟩ = false := frozen_of_row _ _ _ _ _ hl4
    obtain ⟨_, _, r2, r3, r4⟩ := hl4.cells
    clear hl4 hr4 hf4 hfk4 hm4 hbw
    have e0 : (c1 == 0) = true := by simpa using hc0
    have e3 : (c1 == 3) = false := by simp; omega
    have e2 : (c2 == 0) = false := by simpa using hc2
    have e2' : (c2 != 0) = true := by simpa using hc2
    clear hc0 hc2
    go_wp2_with fail
    go_region_held3 (fun w' => w'.cell? ⟨m, 0, none⟩ = some (.pointer (some ⟨r, 0, none⟩)) ∧ w'.cell? ⟨m, 1, none⟩ = some (.string nm))
      (first
        | (exact ⟨q0, q1⟩)
        | (exact ⟨s0, s1⟩))
      (first
        | (go_at_call 25
           refine (HSY.out w4.drew (HW4.out.2.1.later (Below.refl _ _).drew) (HR.out.2.mono HW4.out.2.2.1.below.size)).mono ?_
           rintro e w5 ⟨rfl, hr5, hm5⟩
           have hfk5 : FR base none w4.drew w5 := FR.of_moved (HW4.out.2.1.later (Below.refl _ _).drew) hm5
           have hl5 : RLedRow w5 m r nm ln sz false := RLedRow.fr (w := w4.drew) HW4.out.1 hfk5
           have s0 := hl5.cells.1
           have s1 := hl5.cells.2.1))
    all_goals
      go_split_ands
      have hf5 : FR base none w w5 := HW4.out.2.2.1.trans ((FR.of_below (Below.refl _ w4).drew (Nat.le_trans HW4.out.2.2.2 HW4.out.2.2.1.below.size)).trans hfk5)
      have HW5 := Lib.hid (And.intro hl5 (And.intro hr5 hf5))
      have z4' : w5.frozen? ⟨m, 4, none⟩ = false := frozen_of_row _ _ _ _ _ hl5
      have z2' : w5.frozen? ⟨m, 2, none⟩ = false := frozen_of_row _ _ _ _ _ hl5
      have z3' : w5.frozen? ⟨m, 3, none⟩ = false := frozen_of_row _ _ _ _ _ hl5
      obtain ⟨_, _, t2, t3, t4⟩ := hl5.cells
      have hwn : IntKind.i64.wrap (ln + 1) = ln + 1 := IntWalk.i64_in _ (by have := HLE.out; omega)
      have hwz : IntKind.i64.wrap (sz + (K : Int)) = sz + (K : Int) := IntWalk.i64_in _ (by have h9 := H1.out.2.2.1; rw [putF_len, HS.out.2] at h9; have := HLE.out; omega)
      clear hl5 hr5 hf5 hfk5 hm5 z4 r2 r3 r4
      go_wp2_with fail
      go_ret
      have hfin := RFin.set (off := 4) (v := .bool true) (⟨HW5.out.2.1, HW5.out.1, HW5.out.2.2.wide _⟩ : RFin w w5 r base m nm ln sz false g2) HL.out HS.out.1 (heap_setCell_same w5 m 4 _ _ (.bool true) HW5.out.1)
      rw [HO.out]
      exact ⟨rfl, hfin.rs, hfin.row, hfin.fr⟩
set_option maxRecDepth 100000 in
set_option maxHeartbeats 2000000 in
theorem rAdd_ok [Zone] (base r m q k : Nat) (L : LSig) (g g1 g2 : Sig) (c1 c2 : Int) (ao : Option Addr) (n cap : Nat) (B : List UInt8) (w : World) (hss : L.nm.size ≤ 1099511627776) (hbl : base ≤ m) (hl : RLedRow w m r L.nm L.n L.size L.br) (hr : RSig w r base g) (hzw : ZW w) (hB : IsBytes w ao n cap B) (hbr : L.br = false)
    (hlim : Lim q k g) (hfit : Fit g) (hLl : LLim q L) (hq : q + n + 13 ≤ 4294967296) (hk : k + 2 ≤ 100000) (hm : n ≤ 65536) (h1 : appG L.nm (Fr.putF B) g = (c1, g1)) (h2 : syncG L.nm g1 = (c2, g2)) (hc0 : c1 = 0) (hc2 : c2 = 0) :
    Calls Tryz.prog 14 #[.pointer (some ⟨m, 0, none⟩), .slice ao n cap] w fun e w' => RAddR (addG B L g) r base m w e w' := by
  have hBl := hB.1
  have HO := Lib.hid (show addG B L g = (0, ⟨L.nm, L.n + 1, L.size + ((Fr.putF B).length : Nat), false⟩, g2) from by unfold addG; rw [if_neg (by rw [hbr]; simp), if_neg (by omega), h1, if_neg (by dsimp only; omega), if_neg (by dsimp only; omega)]; dsimp only; rw [h2, if_neg (by dsimp only; omega)])
  have hn0 := hLl.n0
  have hn1 := hLl.n1
  have hz0 := hLl.s0
  have hz1 := hLl.s1
  have hl1 : Lim (q + n + 12) (k + 1) g1 := by have := hlim.app (s := L.nm) (B := Fr.putF B) (q' := q + n + 12) (k' := k + 1) (by rw [putF_len]; omega) (Nat.le_refl _); rw [h1] at this; exact this
  have hf1 : Fit g1 := by have := hfit.app hlim L.nm (Fr.putF B) (by rw [putF_len]; omega); rw [h1] at this; exact this
  have HAP := Lib.hid (fun (va : Option Addr) (K vc : Nat) (w' : World) (hr' : RSig w' r base g) (hz : ZW w') (hv : IsBytes w' va K vc (Fr.putF B)) => rAppend_S L.nm hss r base q k g va K vc (Fr.putF B) w' hr' ⟨hlim, by omega, by omega, hfit.1, hfit.2⟩ hz hv (fun wa wb ha hb => bytes_keptR (hv.later ha) (hr'.later ha) hb) (by have h9 := hv.1; rw [putF_len] at h9; omega))
  have HSY := Lib.hid (fun (w' : World) (hr' : RSig w' r base g1) (hz : ZW w') => rSync_S L.nm r base (q + n + 12) (k + 1) g1 w' hr' ⟨hl1, by omega, by omega, hf1.1, hf1.2⟩ hz)
  rw [h1] at HAP
  rw [h2] at HSY
  obtain ⟨nm, ln, sz, br⟩ := L
  dsimp only at hl hbr hn0 hn1 hz0 hz1 HAP HSY HO
  subst hbr
  have HL := Lib.hid hl
  have HR := Lib.hid (And.intro hr hzw)
  have HS := Lib.hid (And.intro hbl hBl)
  have HLE : Hid (ln + 1 ≤ 4294967296 ∧ sz + n + 12 ≤ 8589934592) := Lib.hid (by omega)
  obtain ⟨l0, l1, l2, l3, l4⟩ := hl.cells
  have HB := Lib.hid hB
  clear hl hr hB hlim hfit hLl hl1 hf1 h1 h2 hss hBl hk hbl hzw l0 l1 l2 l3
  go_enter Tryz.func14, Tryz.ntmps14
  go_wp2_with fail
  refine (refPut_any ao n cap B w HB.out hm).mono ?_
  rintro e w1 ⟨v, rfl, hown, hb1⟩
  obtain ⟨va, vc, hv, hvb, _⟩ := hown.bytes
  obtain ⟨K, hK⟩ : ∃ K, K = (Fr.putF B).length := ⟨_, rfl⟩
  rw [← hK] at hv hvb
  subst hv
  have hlw1 := HL.out.later hb1
  have H1 := Lib.hid (And.intro hb1 (And.intro hvb (And.intro hK (And.intro hlw1 (HR.out.1.later hb1)))))
  obtain ⟨k0, k1, _, _, _⟩ := hlw1.cells
  clear hown hb1 hvb hK hlw1
  go_wp2_with fail
  go_region_held3 (fun w' => w'.cell? ⟨m, 0, none⟩ = some (.pointer (some ⟨r, 0, none⟩)) ∧ w'.cell? ⟨m, 1, none⟩ = some (.string nm))
    (first
      | (exact ⟨k0, k1⟩)
      | (exact ⟨q0, q1⟩))
    (first
      | (go_at_call 21
         refine (HAP.out va K vc w1.drew (H1.out.2.2.2.2.later (Below.refl _ _).drew) (HR.out.2.mono H1.out.1.size) (H1.out.2.1.later (Below.refl _ _).drew)).mono ?_
         rintro e w4 ⟨rfl, hr4, hm4⟩
         have hfk4 : FR base none w1.drew w4 := FR.of_moved (H1.out.2.2.2.2.later (Below.refl _ _).drew) hm4
         have hl4 : RLedRow w4 m r nm ln sz false := RLedRow.fr (w := w1.drew) H1.out.2.2.2.1 hfk4
         have q0 := hl4.cells.1
         have q1 := hl4.cells.2.1))
  all_goals
    go_split_ands
    have hbw : base ≤ w.heap.size := by have := HS.out.1; have := heap_lt HL.out; omega
    have hf4 : FR base none w w4 := (FR.of_below (H1.out.1.trans (Below.refl _ w1).drew) hbw).trans hfk4
    have HW4 := Lib.hid (And.intro hl4 (And.intro hr4 (And.intro hf4 hbw)))
    have z4 : w4.frozen? ⟨m, 4, none⟩ = false := frozen_of_row _ _ _ _ _ hl4
    obtain ⟨_, _, r2, r3, r4⟩ := hl4.cells
    clear hl4 hr4 hf4 hfk4 hm4 hbw
    have e0 : (c1 == 0) = true := by simpa using hc0
    have e3 : (c1 == 3) = false := by simp; omega
    have e2 : (c2 == 0) = true := by simpa using hc2
    have e2' : (c2 != 0) = false := by simpa using hc2
    clear hc0 hc2
    go_wp2_with fail
    go_region_held3 (fun w' => w'.cell? ⟨m, 0, none⟩ = some (.pointer (some ⟨r, 0, none⟩)) ∧ w'.cell? ⟨m, 1, none⟩ = some (.string nm))
      (first
        | (exact ⟨q0, q1⟩)
        | (exact ⟨s0, s1⟩))
      (first
        | (go_at_call 25
           refine (HSY.out w4.drew (HW4.out.2.1.later (Below.refl _ _).drew) (HR.out.2.mono HW4.out.2.2.1.below.size)).mono ?_
           rintro e w5 ⟨rfl, hr5, hm5⟩
           have hfk5 : FR base none w4.drew w5 := FR.of_moved (HW4.out.2.1.later (Below.refl _ _).drew) hm5
           have hl5 : RLedRow w5 m r nm ln sz false := RLedRow.fr (w := w4.drew) HW4.out.1 hfk5
           have s0 := hl5.cells.1
           have s1 := hl5.cells.2.1))
    all_goals
      go_split_ands
      have hf5 : FR base none w w5 := HW4.out.2.2.1.trans ((FR.of_below (Below.refl _ w4).drew (Nat.le_trans HW4.out.2.2.2 HW4.out.2.2.1.below.size)).trans hfk5)
      have HW5 := Lib.hid (And.intro hl5 (And.intro hr5 hf5))
      have z4' : w5.frozen? ⟨m, 4, none⟩ = false := frozen_of_row _ _ _ _ _ hl5
      have z2' : w5.frozen? ⟨m, 2, none⟩ = false := frozen_of_row _ _ _ _ _ hl5
      have z3' : w5.frozen? ⟨m, 3, none⟩ = false := frozen_of_row _ _ _ _ _ hl5
      obtain ⟨_, _, t2, t3, t4⟩ := hl5.cells
      have hwn : IntKind.i64.wrap (ln + 1) = ln + 1 := IntWalk.i64_in _ (by have := HLE.out; omega)
      have hwz : IntKind.i64.wrap (sz + (K : Int)) = sz + (K : Int) := IntWalk.i64_in _ (by have h9 := H1.out.2.2.1; rw [putF_len, HS.out.2] at h9; have := HLE.out; omega)
      clear hl5 hr5 hf5 hfk5 hm5 z4 r2 r3 r4
      go_wp2_with fail
      go_ret
      have g2' := heap_setCell_same w5 m 2 _ _ (.int .i64 (ln + 1)) HW5.out.1
      have hfin := RFin.set (off := 3) (v := .int .i64 (sz + (K : Int))) (RFin.set (off := 2) (v := .int .i64 (ln + 1)) (⟨HW5.out.2.1, HW5.out.1, HW5.out.2.2.wide _⟩ : RFin w w5 r base m nm ln sz false g2) HL.out HS.out.1 g2') HL.out HS.out.1 (heap_setCell_same _ m 3 _ _ (.int .i64 (sz + (K : Int))) g2')
      rw [HO.out]
      exact ⟨rfl, hfin.rs, by rw [← H1.out.2.2.1]; exact hfin.row, hfin.fr⟩
theorem rAdd_S [Zone] (base r m q k : Nat) (L : LSig) (g : Sig) (ao : Option Addr) (n cap : Nat) (B : List UInt8) (w : World) (hss : L.nm.size ≤ 1099511627776) (hbl : base ≤ m) (hl : RLedRow w m r L.nm L.n L.size L.br) (hr : RSig w r base g) (hzw : ZW w) (hB : IsBytes w ao n cap B)
    (hlim : Lim q k g) (hfit : Fit g) (hLl : LLim q L) (hq : q + n + 13 ≤ 4294967296) (hk : k + 2 ≤ 100000) :
    Calls Tryz.prog 14 #[.pointer (some ⟨m, 0, none⟩), .slice ao n cap] w fun e w' => RAddR (addG B L g) r base m w e w' := by
  have hBl := hB.1
  by_cases hbr : L.br = true
  · exact rAdd_br base r m L g ao n cap B w hl hr hbr
  have hbr : L.br = false := by simpa using hbr
  by_cases hm : 65536 < n
  · exact rAdd_long base r m L g ao n cap B w hl hr hbr hBl hm (by omega)
  obtain ⟨c1, g1, h1⟩ : ∃ c g1, appG L.nm (Fr.putF B) g = (c, g1) := ⟨_, _, rfl⟩
  obtain ⟨c2, g2, h2⟩ : ∃ c g2, syncG L.nm g1 = (c, g2) := ⟨_, _, rfl⟩
  by_cases hc3 : c1 = 3
  · exact rAdd_full base r m q k L g g1 g2 c1 c2 ao n cap B w hss hbl hl hr hzw hB hbr hlim hfit hLl hq hk (by omega) h1 h2 hc3
  by_cases hc0 : c1 = 0
  · by_cases hc2 : c2 = 0
    · exact rAdd_ok base r m q k L g g1 g2 c1 c2 ao n cap B w hss hbl hl hr hzw hB hbr hlim hfit hLl hq hk (by omega) h1 h2 hc0 hc2
    · exact rAdd_sfail base r m q k L g g1 g2 c1 c2 ao n cap B w hss hbl hl hr hzw hB hbr hlim hfit hLl hq hk (by omega) h1 h2 hc0 hc2
  · exact rAdd_fail base r m q k L g g1 g2 c1 c2 ao n cap B w hss hbl hl hr hzw hB hbr hlim hfit hLl hq hk (by omega) h1 h2 hc3 hc0
end Go.Proofs.YtjkkfjmloleedaaGreat

/- apportionkit.OverBytes -/
namespace Go.Proofs.YtjkkfjmloleedaaGreat
open Go.RowKit
theorem grownBy_setCell {w w1 : World} {g off : Nat} {v : Value} (h : w.grownBy w1 (some g)) : w.grownBy (w1.setCell ⟨g, off, none⟩ v) (some g) :=
  ⟨h.os, h.tape, h.output, by simpa using h.size, fun k hk hne => by
    rw [Below.heap_setCell _ _ _ _ (by intro e; exact hne (by rw [e]))]; exact h.block k hk hne⟩
theorem xor_u8 (c d : UInt8) : bits .xor .u8 (c.toNat : Int) (d.toNat : Int) = (((c ^^^ d).toNat : Nat) : Int) := by
  rw [u8_xor_nat _ _ c.toNat_lt d.toNat_lt, UInt8.toNat_xor]
theorem u8s_of_all : ∀ vs : List Value, (∀ u ∈ vs, isU8 u) → ∃ l, vs = u8s l
  | [], _ => ⟨[], rfl⟩
  | v :: vs, h => by
    obtain ⟨c, hc⟩ := h v (by simp)
    obtain ⟨l, hl⟩ := u8s_of_all vs (fun u hu => h u (by simp [hu]))
    exact ⟨c :: l, by rw [hc, hl]; rfl⟩
/-- what a step that keeps block g a row of bytes of its length leaves of an owned slice of bytes: one of as many. -/
theorem OwnB.over {w w' : World} {g cap base : Nat} {c1 c2 : Array Value} {u : Value} {l : List UInt8} (h : OwnB w base u l) (h1 : w.heap[g]? = some (.cells c1 5 (0, 0))) (hs1 : c1.size = cap) (h2 : w'.heap[g]? = some (.cells c2 5 (0, 0))) (hs2 : c2.size = cap) (hok : ∀ u, u ∈ c2 → isU8 u)
    (hg : w.grownBy w' (some g)) : ∃ l3 : List UInt8, l3.length = l.length ∧ OwnB w' base u l3 := by
  by_cases hu : u.ownBlock = some g
  · rcases h.1.2 with ⟨rfl, h0⟩ | ⟨g', cap', cur, rfl, hb, hg', hn, hm, hs, ht⟩
    · simp [Value.ownBlock] at hu
    · simp only [Value.ownBlock, Option.some.injEq] at hu
      subst hu
      rw [h1] at hg'
      injection hg' with hg'
      injection hg' with hg' _ _
      subst hg'
      have hcc : cap' = cap := by omega
      subst hcc
      obtain ⟨l3, hl3⟩ := u8s_of_all (c2.toList.take (l.length * 1)) (fun u hu => hok u (by simpa using List.mem_of_mem_take hu))
      have hlen : l3.length = l.length := by
        have := congrArg List.length hl3
        rw [List.length_take, u8s_length] at this
        simp at this
        omega
      refine ⟨l3, hlen, ⟨by simp [u8s], .inr ⟨g', cap', c2, by rw [hlen], hb, h2, by omega, hm, by omega, by rw [hlen]; exact hl3⟩⟩, ?_⟩
      intro g2 c t f e1 e2 u hu
      simp only [Value.ownBlock, Option.some.injEq] at e1
      subst e1
      rw [h2] at e2
      injection e2 with e2
      injection e2 with e2 _ _
      subst e2
      exact hok u hu
  · exact ⟨l, rfl, h.kept hg (fun k hk e => hu (by rw [hk, e]))⟩
set_option maxRecDepth 100000 in
set_option maxHeartbeats 400000 in
theorem OverBytes_strong (v : Value) (base : Nat) (l : List UInt8) (w : World) (h : OwnB w base v l) :
    Calls Tryz.prog 45 #[v] w fun e w' => e = .returned (.tuple #[]) ∧ w.grownBy w' v.ownBlock ∧ (∀ base2 u l2, OwnB w base2 u l2 → ∃ l3 : List UInt8, l3.length = l2.length ∧ OwnB w' base2 u l3) := by
  obtain ⟨hrow, hall⟩ := h
  rcases hrow.2 with ⟨rfl, h0⟩ | ⟨g, cap, cur, rfl, hb, hg, hn, hm, hs, ht⟩
  · go_enter Tryz.func45, Tryz.ntmps45
    go_wp2
    refine wp_loop_rounds 1 ?_
    rw [rounds_succ]
    go_wp2
    go_end0
    exact ⟨rfl, ⟨rfl, rfl, rfl, Nat.le_refl _, fun _ _ _ => rfl⟩, fun _ _ l2 h => ⟨l2, rfl, h⟩⟩
  · have hok := hall g cur _ _ rfl hg
    have hs : cur.size = cap := by omega
    unfold maxLen at hm
    have HOK : Hid (∃ c2 : Array Value, c2.size = cap ∧ (∀ u, u ∈ c2 → isU8 u) ∧ w.heap[g]? = some (.cells c2 5 (0, 0))) := ⟨cur, hs, hok, hg⟩
    have h0 : (0 : Int) ≤ (cap : Int) := by omega
    have HG0 := Lib.hid hg
    have HS0 := Lib.hid hs
    clear hok hg hs ht hrow hall
    go_enter Tryz.func45, Tryz.ntmps45
    go_wp2
    go_loopw [3] (fun i wr => ∃ k : Nat, k ≤ cap ∧ i = .int .i64 k ∧ Hid (∃ c2 : Array Value, c2.size = cap ∧ (∀ u, u ∈ c2 → isU8 u) ∧ wr.heap[g]? = some (.cells c2 5 (0, 0))) ∧ Hid (w.grownBy wr (some g))) (fun i _ => cap - (intOf i).toNat)
    case atStart => exact ⟨0, by omega, rfl, HOK, rfl, rfl, rfl, Nat.le_refl _, fun _ _ _ => rfl⟩
    case round =>
      obtain ⟨k, hk, rfl, hbk, hgr⟩ := hrel
      by_cases hlt : k < cap
      · obtain ⟨c2, hs2, hok2, hg2⟩ := hbk.out
        obtain ⟨c, hc⟩ := hok2 (c2[k]'(by omega)) (Array.getElem_mem _)
        have hcell : wr.cell? ⟨g, k, none⟩ = some (.int .u8 (c.toNat : Int)) := by
          rw [cell_of_row _ _ _ _ _ _ hg2, Array.getElem?_eq_getElem (by omega), hc]
        have hf : wr.frozen? ⟨g, k, none⟩ = false := frozen_of_row _ _ _ _ _ hg2
        have hx := xor_u8 c 90
        have HX : Hid (bits .xor .u8 (c.toNat : Int) 90 = (((c ^^^ 90).toNat : Nat) : Int)) := hx
        have HG := Lib.hid hg2
        have HS := Lib.hid hs2
        have HO := Lib.hid hok2
        have hcl := c.toNat_lt
        clear hx hg2 hs2 hok2 hc
        go_wp2
        go_roundw
        case rel =>
          refine ⟨k + 1, by omega, by go_num, ?_, grownBy_setCell hgr.out⟩
          refine ⟨_, ?_, ?_, heap_setCell_same _ _ _ _ _ _ HG.out⟩
          · simp [HS.out]
          · intro u hu
            rcases Array.mem_or_eq_of_mem_setIfInBounds hu with h | h
            · exact HO.out u h
            · exact ⟨c ^^^ 90, by rw [h, HX.out]⟩
        case measure => simp [intOf]; omega
      · obtain rfl : k = cap := by omega
        go_wp2
        go_end0
        obtain ⟨c2, hs2, hok2, hg2⟩ := hbk.out
        exact ⟨rfl, hgr.out, fun _ _ _ h => h.over HG0.out HS0.out hg2 hs2 hok2 hgr.out⟩
theorem OverBytes_any (v : Value) (base : Nat) (l : List UInt8) (w : World) (h : OwnB w base v l) :
    Calls Tryz.prog 45 #[v] w fun e w' => e = .returned (.tuple #[]) ∧ w.grownBy w' v.ownBlock :=
  (OverBytes_strong v base l w h).mono fun _ _ h => ⟨h.1, h.2.1⟩
end Go.Proofs.YtjkkfjmloleedaaGreat
