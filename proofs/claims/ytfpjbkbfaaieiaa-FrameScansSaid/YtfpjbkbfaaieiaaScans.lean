/- apportionlaw06.FrameScans -/
import Derived.Test.YtfpjbkbfaaieiaaRefScan
namespace Go.Proofs.Ytfpjbkbfaaieiaa
open Go.RowKit
/-- a slice of n slices that each own some bytes, all of them in blocks of [B, S). -/
def Loose (w : World) (B S n : Nat) (v : Value) : Prop :=
  ∃ vs : List Value, vs.length = n ∧ w.ownsRow B 22 1 v n vs ∧ (∀ g, v.ownBlock = some g → g < S) ∧
    ∀ i, i < n → ∃ u l, vs[i]? = some u ∧ OwnB w B u l ∧ (∀ g, u.ownBlock = some g → g < S)
theorem Lists.loose {w : World} {B : Nat} {v : Value} {L : List (List UInt8)} (h : Lists w B v L) : Loose w B w.heap.size L.length v := by
  obtain ⟨vs, h1, h2, h3⟩ := h
  refine ⟨vs, h1, h2, fun g hg => (h2.lt g hg).2, fun i hi => ?_⟩
  obtain ⟨u, hu, ho⟩ := h3 i hi
  exact ⟨u, _, hu, ho, fun g hg => (ho.1.lt g hg).2⟩
theorem Loose.later {w w' : World} {B S n : Nat} {v : Value} (h : Loose w B S n v) (hb : Below w.heap.size w w') : Loose w' B S n v := by
  obtain ⟨vs, h1, h2, h2b, h3⟩ := h
  refine ⟨vs, h1, ownsRow_later h2 hb, h2b, fun i hi => ?_⟩
  obtain ⟨u, l, hu, ho, hs⟩ := h3 i hi
  exact ⟨u, l, hu, ho.later hb, hs⟩
/-- the world w' is w but for the blocks of [B, S). -/
def KeptBut (B S : Nat) (w w' : World) : Prop := w'.os = w.os ∧ w'.tape = w.tape ∧ w'.output = w.output ∧ w.heap.size ≤ w'.heap.size ∧ ∀ k, k < w.heap.size → (k < B ∨ S ≤ k) → w'.heap[k]? = w.heap[k]?
theorem Loose.over {w w' : World} {B S n : Nat} {v u : Value} {vs : List Value} (h1 : vs.length = n) (h2 : w.ownsRow B 22 1 v n vs) (h2b : ∀ g, v.ownBlock = some g → g < S)
    (h3 : ∀ i, i < n → ∃ u l, vs[i]? = some u ∧ OwnB w B u l ∧ (∀ g, u.ownBlock = some g → g < S)) {l : List UInt8} (hu : OwnB w B u l) (hg : w.grownBy w' u.ownBlock)
    (ho : ∀ base2 u l2, OwnB w base2 u l2 → ∃ l3 : List UInt8, l3.length = l2.length ∧ OwnB w' base2 u l3) : Loose w' B S n v := by
  refine ⟨vs, h1, ?_, h2b, fun i hi => ?_⟩
  · refine ownsRow_move h2 (fun g hgv => hg.block g (h2.lt g hgv).2 (fun e => ?_))
    exact ownBlock_ne (by decide) h2 hu.1 g e.symm hgv.symm
  · obtain ⟨x, lx, hx, hox, hsx⟩ := h3 i hi
    obtain ⟨l3, _, ho3⟩ := ho B x lx hox
    exact ⟨x, l3, hx, ho3, hsx⟩
/-- lists above S are kept. -/
theorem Lists.kept_high {w w' : World} {B S : Nat} {v : Value} {L : List (List UInt8)} (h : Lists w S v L) (hk : KeptBut B S w w') : Lists w' S v L := by
  obtain ⟨vs, h1, h2, h3⟩ := h
  refine ⟨vs, h1, ownsRow_move h2 (fun g hg => hk.2.2.2.2 g (h2.lt g hg).2 (.inr (h2.lt g hg).1)), fun i hi => ?_⟩
  obtain ⟨u, hu, ho⟩ := h3 i hi
  exact ⟨u, hu, ho.move (fun g hg => hk.2.2.2.2 g (ho.1.lt g hg).2 (.inr (ho.1.lt g hg).1))⟩
theorem KeptBut.below {B S a : Nat} {w w' : World} (h : KeptBut B S w w') (ha : a ≤ B) (hB : B ≤ w.heap.size) : Below a w w' :=
  ⟨h.1, h.2.1, h.2.2.1, h.2.2.2.1, fun k hk => h.2.2.2.2 k (by omega) (.inl (by omega))⟩
theorem KeptBut.over {B S : Nat} {w w1 w2 : World} {u : Value} (h : KeptBut B S w w1) (hg : w1.grownBy w2 u.ownBlock) (hu : ∀ g, u.ownBlock = some g → B ≤ g ∧ g < S) : KeptBut B S w w2 := by
  refine ⟨hg.os.trans h.1, hg.tape.trans h.2.1, hg.output.trans h.2.2.1, Nat.le_trans h.2.2.2.1 hg.size, fun k hk hkk => ?_⟩
  rw [hg.block k (by have := h.2.2.2.1; omega) (fun e => by have := hu k e.symm; omega)]
  exact h.2.2.2.2 k hk hkk
theorem scan_list_le (b : List UInt8) : (Fr.scanF b).1.length ≤ b.length := by
  obtain ⟨h1, _, _, _, _, h6, _⟩ := Fr.scan_more _ b [] (Nat.lt_succ_self _)
  have h7 : (Fr.putAll (Fr.scanF b).1).length = (Fr.scanF b).2.1 := by rw [h6, List.length_take]; omega
  have h8 : ∀ L : List (List UInt8), L.length ≤ (Fr.putAll L).length := by
    intro L
    induction L with
    | nil => simp
    | cons a L ih =>
      have : Fr.putAll (a :: L) = Fr.putF a ++ Fr.putAll L := rfl
      rw [this, List.length_append, Fr.putF_length, List.length_cons]
      omega
  have := h8 (Fr.scanF b).1
  omega
set_option maxRecDepth 100000 in
set_option maxHeartbeats 2000000 in
theorem FrameScans_any (w : World) (ao : Option Addr) (n cap : Nat) (l : List UInt8) (hs : IsBytes w ao n cap l) :
    Calls Try.prog 4 #[.slice ao n cap] w fun e w' => e = .returned (.bool true) ∧ Below w.heap.size w w' := by
  by_cases hbig : n ≤ 20000
  case neg =>
    have hp : (20000 : Int) < (n : Int) := by omega
    go_enter Try.func4, Try.ntmps4
    go_wp2_with fail
    go_ret
    exact ⟨rfl, Below.refl _ _⟩
  have hp : (n : Int) ≤ 20000 := by omega
  have HL := Lib.hid hs.1
  have HS := Lib.hid hs
  clear hs
  obtain ⟨L, hLd⟩ : ∃ L, L = (Fr.scanF l).1 := ⟨_, rfl⟩
  obtain ⟨z, hz⟩ : ∃ z, z = (Fr.scanF l).2.1 := ⟨_, rfl⟩
  obtain ⟨r, hr⟩ : ∃ z, z = (Fr.scanF l).2.2 := ⟨_, rfl⟩
  have hLn : L.length ≤ 20000 := by have h1 := scan_list_le l; have h2 := HL.out; rw [hLd]; omega
  have HLD := Lib.hid hLd
  have HZ := Lib.hid hz
  have HR := Lib.hid hr
  clear hLd hz hr
  go_enter Try.func4, Try.ntmps4
  go_wp2_with fail
  refine (LentBytes_any ao n cap l w HS.out (by omega)).mono ?_
  rintro e w1 ⟨g, rfl, hgb, hg, hb1⟩
  have hin : IsBytes w1 (some ⟨g, 0, none⟩) n (n + 3) l := lent_reads HL.out (by omega) hg
  have hg1 : g < w1.heap.size := by
    rcases Nat.lt_or_ge g w1.heap.size with h | h
    · exact h
    · rw [Array.getElem?_eq_none h] at hg; cases hg
  have HG1 := Lib.hid hg
  have HIN1 := Lib.hid hin
  have HB1 := Lib.hid hb1
  clear hg hin hb1
  go_wp2_with fail
  refine (Scan_any _ _ _ l w1 HIN1.out (by omega)).mono ?_
  rintro e w2 ⟨v2, rfl, hl2, hb2⟩
  rw [← HLD.out] at hl2
  rw [← HZ.out, ← HR.out]
  have HB12 := Lib.hid hb2
  have HL2 := Lib.hid hl2
  have HLO2 := Lib.hid hl2.loose
  have HB2 := Lib.hid (HB1.out.trans (hb2.mono HB1.out.size))
  clear hb2 hl2
  go_wp2_with fail
  refine (RefScan_any _ _ _ l w2 (HS.out.later HB2.out) (by omega)).mono ?_
  rintro e w3 ⟨v3, rfl, hl3, hb3⟩
  rw [← HLD.out] at hl3
  rw [← HZ.out, ← HR.out]
  obtain ⟨a2, c2, rfl, hr2⟩ := (HL2.out.later hb3).reads
  obtain ⟨a3, c3, rfl, hr3⟩ := hl3.reads
  have HB3 := Lib.hid (HB2.out.trans (hb3.mono HB2.out.size))
  have HB13 := Lib.hid (HB12.out.trans (hb3.mono HB12.out.size))
  have HLO3 := Lib.hid (HLO2.out.later hb3)
  have HY3 := Lib.hid hl3
  have HR2 := Lib.hid hr2
  have HR3 := Lib.hid hr3
  have hs23 := hb3.size
  clear hb3 hl3 hr2 hr3 HLO2
  go_wp2_with fail
  refine (SameLists_any _ _ _ _ _ _ L L _ HR2.out HR3.out).mono ?_
  rintro e w4 ⟨rfl, q, hw4⟩
  rw [show (L == L) = true by simp]
  have hb4 : Below w3.heap.size w3 w4 := by rw [hw4]; exact below_drewN (Below.refl _ _) q
  have HB4 := Lib.hid (HB3.out.trans (hb4.mono HB3.out.size))
  have HB14 := Lib.hid (HB13.out.trans (hb4.mono HB13.out.size))
  have HLO4 := Lib.hid (HLO3.out.later hb4)
  have HY4 := Lib.hid (HY3.out.later hb4)
  have hs34 := hb4.size
  clear hw4 hb4 HLO3 HY3 HR2 HR3 HL2
  have hzz : ((z : Int) == (z : Int)) = true := by simp
  have hrr : ((r : Int) == (r : Int)) = true := by simp
  go_wp2_with fail
  go_loopw [11] (fun i wr => ∃ k : Nat, k ≤ L.length ∧ i = .int .i64 k ∧ Hid (Loose wr w1.heap.size w2.heap.size L.length (.slice a2 L.length c2)) ∧ Hid (KeptBut w1.heap.size w2.heap.size w4 wr)) (fun i _ => L.length - (intOf i).toNat)
  case atStart => exact ⟨0, by omega, rfl, HLO4, rfl, rfl, rfl, Nat.le_refl _, fun _ _ _ => rfl⟩
  case round =>
    obtain ⟨k, hk, rfl, hlo, hkb⟩ := hrel
    by_cases hlt : k < L.length
    · obtain ⟨vs, hv1, hv2, hv2b, hv3⟩ := hlo.out
      obtain ⟨u, lu, hvu, hou, hus⟩ := hv3 k hlt
      obtain ⟨gx, rfl⟩ : ∃ gx, a2 = some ⟨gx, 0, none⟩ := by
        rcases hv2.2 with ⟨h, h0⟩ | ⟨g', cap', cur, h, _⟩
        · omega
        · injection h with h1 h2 h3
          exact ⟨g', h1⟩
      have hcell : wr.cell? ⟨gx, k, none⟩ = some u := by
        have hc := hv2.cells (g := gx) rfl k u hvu
        have : (⟨gx, 0, none⟩ : Addr).add k = ⟨gx, k, none⟩ := by unfold Addr.add; split <;> simp_all
        rwa [this] at hc
      have hk0 : (0 : Int) ≤ (k : Int) := by omega
      have hk1 : (k : Int) < (L.length : Int) := by omega
      have HV1 := Lib.hid hv1
      have HV2 := Lib.hid hv2
      have HV2B := Lib.hid hv2b
      have HV3 := Lib.hid hv3
      have HOU := Lib.hid hou
      have HUS := Lib.hid hus
      clear hv1 hv2 hv2b hv3 hvu hou hus
      go_wp2_with fail
      refine (OverBytes_strong u w1.heap.size lu wr HOU.out).mono ?_
      rintro e w5 ⟨rfl, hg5, hall⟩
      have HLO5 := Lib.hid (Loose.over HV1.out HV2.out HV2B.out HV3.out HOU.out hg5 hall)
      have HKB5 := Lib.hid (hkb.out.over hg5 (fun g hg => ⟨(HOU.out.1.lt g hg).1, HUS.out g hg⟩))
      clear hg5 hall
      go_wp2_with fail
      go_roundw
      case rel => exact ⟨k + 1, by omega, by go_num, HLO5, HKB5⟩
      case measure => simp [intOf]; omega
    · obtain rfl : k = L.length := by omega
      have hw12 := HB12.out.size
      have hbr := hkb.out.below (a := w.heap.size) HB1.out.size (by omega)
      have HB5 := Lib.hid (HB4.out.trans hbr)
      have hgr : wr.heap[g]? = some (.cells (u8s (lentA l 3)).toArray 5 (0, 0)) := ((hkb.out.2.2.2.2 g (by omega) (.inl hg1)).trans (HB14.out.block g hg1)).trans HG1.out
      have HG5 := Lib.hid hgr
      have HY5 := Lib.hid (HY4.out.kept_high hkb.out)
      clear hbr hgr
      go_wp2_with fail
      refine (Scan_any _ _ _ l wr (HS.out.later HB5.out) (by omega)).mono ?_
      rintro e w6 ⟨v6, rfl, hl6, hb6⟩
      rw [← HLD.out] at hl6
      obtain ⟨a6, c6, rfl, hr6⟩ := hl6.reads
      have HB6 := Lib.hid (HB5.out.trans (hb6.mono HB5.out.size))
      have hg6b : g < wr.heap.size := by
        rcases Nat.lt_or_ge g wr.heap.size with h | h
        · exact h
        · have := HG5.out; rw [Array.getElem?_eq_none h] at this; cases this
      have HG6 := Lib.hid ((hb6.block g hg6b).trans HG5.out)
      have HY6 := Lib.hid (HY5.out.later hb6)
      have HR6 := Lib.hid hr6
      clear hb6 hl6 hr6
      go_wp2_with fail
      refine (KeptBytes_any g n (lentA l 3) _ _ l w6 HG6.out (by rw [lentA_length, HL.out]) (HS.out.later HB6.out) (by omega)).mono ?_
      rintro e w7 ⟨rfl, hb7⟩
      rw [show (lentA l 3 == lentA l 3) = true by simp]
      have hb7 : Below w6.heap.size w6 w7 := hb7
      have HB7 := Lib.hid (HB6.out.trans (hb7.mono HB6.out.size))
      have HR7 := Lib.hid (HR6.out.later hb7)
      obtain ⟨a7, c7, hv7, hr7⟩ := (HY6.out.later hb7).reads
      injection hv7 with e1 e2 e3
      subst e1; subst e3
      have HRY := Lib.hid hr7
      clear hb7 hr7
      go_wp2_with fail
      refine (SameLists_any _ _ _ _ _ _ L L _ HR7.out HRY.out).mono ?_
      rintro e w8 ⟨rfl, q8, hw8⟩
      rw [show (L == L) = true by simp]
      have hb8 : Below w7.heap.size w7 w8 := by rw [hw8]; exact below_drewN (Below.refl _ _) q8
      have HB8 := Lib.hid (HB7.out.trans (hb8.mono HB7.out.size))
      clear hw8 hb8
      go_wp2_with fail
      refine (awake_any w8).mono ?_
      rintro e w9 ⟨rfl, hb9⟩
      go_wp2_with fail
      go_ret
      exact ⟨rfl, HB8.out.trans (hb9.mono HB8.out.size)⟩
end Go.Proofs.Ytfpjbkbfaaieiaa
