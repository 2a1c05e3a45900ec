/- law 28: opened, awake -/
import Derived.Test.YtgbpgmbnihfkkaaLOne
import Derived.Test.YtgbpgmbnihfkkaaPIn
import Derived.Test.YtgbpgmbnihfkkaaRow3
set_option linter.unusedSimpArgs false
set_option linter.unusedVariables false
namespace Go.Proofs.Ytgbpgmbnihfkkaa
open Go.RowKit
set_option linter.unusedSectionVars false
def logN : ByteArray := ⟨#[108, 111, 103]⟩
theorem logN_name : nameP logN.data.toList = true := by decide
theorem New_zero (w : World) : Calls Try.prog 4 #[] w fun e w' => ∃ d mb, e = .returned (.pointer (some ⟨d, 0, none⟩)) ∧ @DSig Z0 w' d mb w.heap.size (zeroG 0 0) ∧ Below w.heap.size w w' := by
  refine (@New_G Z0 w (fun _ => ([], [])) (fun k hk => hk.elim)).mono ?_
  rintro e w' ⟨d, mb, rfl, h1, h2, h3, h4⟩
  exact ⟨d, mb, rfl, ⟨[], _, -1, h3, ⟨List.Pairwise.nil, (fun x hx => by cases hx), (fun x hx => by cases hx)⟩, .inl ⟨rfl, rfl⟩⟩, h4⟩
theorem zeroG_lim : Lim 0 0 (zeroG 0 0) := ⟨(fun x hx => by cases hx), by decide, by decide, by decide, by decide⟩
theorem DSig.z0 {Z : Zone} {w : World} {d mb base : Nat} {g : Sig} (h : @DSig Z w d mb base g) : @DSig Z0 w d mb base g :=
  DSig.rezone (Z1 := Z) (Z2 := Z0) h (Nat.le_refl _) (fun _ _ _ => rfl) (fun _ _ _ _ _ _ => rfl) (fun _ _ _ _ => rfl) (fun k hk => hk.elim)
/-- what opened tells of a ledger that stands. -/
def OpenedR (recs : List (List UInt8)) (L : LSig) (g' : Sig) (d mb base : Nat) (w : World) (e : Ending) (w' : World) : Prop :=
  ∃ l v, e = .returned (.tuple #[.pointer (some ⟨l, 0, none⟩), v, .bool true]) ∧ w.heap.size ≤ l ∧ LedRow w' l d L.nm L.n L.size L.br ∧ @DSig Z0 w' d mb base g' ∧ Lists w' w.heap.size v recs ∧ FD base none w w'
set_option maxRecDepth 100000 in
theorem opened_S (base d mb q k : Nat) (g g' : Sig) (recs : List (List UInt8)) (L : LSig) (n : Int) (w : World) (hbs : base ≤ w.heap.size) (hd : @DSig Z0 w d mb base g) (hl : Lim q k g) (hq : q + 1 ≤ 4294967296) (hk : k + 2 ≤ 1000000) (ho : openG logN g = (0, some L, recs, g')) (hL : L.n = (recs.length : Nat)) (hn : n < 0 ∨ n = (recs.length : Nat)) :
    Calls Try.prog 5 #[.pointer (some ⟨d, 0, none⟩), .int .i64 n] w fun e w' => OpenedR recs L g' d mb base w e w' := by
  have H := Open_S logN (by decide) base d mb q k g w hbs hd hl hq hk
  rw [ho] at H
  obtain ⟨m, hm⟩ : ∃ m : Nat, m = recs.length := ⟨_, rfl⟩
  have HM := Lib.hid hm
  have H := Lib.hid H
  have HL := Lib.hid hL
  have HN : Hid (n < 0 ∨ n = (m : Nat)) := Lib.hid (by rw [hm]; exact hn)
  have hmm : ((m : Int) == (m : Int)) = true := by simp
  clear hd hbs hl hq hk ho hL hn hm
  unfold logN at H
  go_enter Try.func5, Try.ntmps5
  go_wp2_with fail
  refine H.out.mono ?_
  rintro e w2 ⟨hi, hi1, hi2, ⟨lv, v, rfl, h1, h2, h3, h4⟩, h5⟩
  have h4 : (some L = none ∧ lv = .pointer none) ∨ ∃ L' l, some L = some L' ∧ lv = .pointer (some ⟨l, 0, none⟩) ∧ w.heap.size ≤ l ∧ LedRow w2 l d L'.nm L'.n L'.size L'.br := h4
  obtain ⟨L', l, hLL, rfl, hl6, hl7⟩ : ∃ L' l, some L = some L' ∧ lv = .pointer (some ⟨l, 0, none⟩) ∧ w.heap.size ≤ l ∧ LedRow w2 l d L'.nm L'.n L'.size L'.br := h4.resolve_left (fun h => by cases h.1)
  injection hLL with hLL
  subst hLL
  have h2 : Lists w2 w.heap.size v recs := h2
  obtain ⟨la, lc, hv, _⟩ := h2.reads
  rw [← HM.out] at hv
  subst hv
  have hl8 := hl7
  rw [HL.out, ← HM.out] at hl8
  have HLN := Lib.hid (Len_any l d L.nm (m : Nat) L.size L.br w2 hl8)
  have HX := Lib.hid (And.intro hl6 (And.intro hl7 (And.intro (DSig.z0 h1) (And.intro h2 h3))))
  clear hi1 hi2 h1 h2 h3 h4 h5 hl6 hl7 hl8
  by_cases hneg : n < 0
  · clear HN
    go_wp2_with fail
    refine HLN.out.mono ?_
    rintro e w3 ⟨rfl, rfl⟩
    go_wp2_with fail
    go_ret3
    exact ⟨l, _, rfl, HX.out⟩
  · obtain rfl : n = (m : Nat) := HN.out.resolve_left hneg
    go_wp2_with fail
    refine HLN.out.mono ?_
    rintro e w3 ⟨rfl, rfl⟩
    go_wp2_with fail
    go_ret3
    exact ⟨l, _, rfl, HX.out⟩
theorem lit12 (w : World) : IsBytes (w.alloc (.cells #[.int .u8 1, .int .u8 2] 5)) (some ⟨w.heap.size, 0, none⟩) 2 2 [1, 2] := by
  refine ⟨rfl, Nat.le_refl _, by unfold maxLen; omega, fun _ => ⟨w.heap.size, 0, rfl, fun i hi => ?_⟩, fun h => by cases h⟩
  have h := heap_alloc_new w (.cells #[.int .u8 1, .int .u8 2] 5)
  match i, hi with
  | 0, _ => exact cell_of_row _ _ _ _ _ _ h
  | 1, _ => exact cell_of_row _ _ _ _ _ _ h
theorem lit_lists (w : World) : IsLists (((w.alloc (.cells #[.int .u8 1, .int .u8 2] 5)).alloc (.cells #[] 5)).alloc (.cells #[.slice (some ⟨w.heap.size, 0, none⟩) 2 2, .slice (some ⟨w.heap.size + 1, 0, none⟩) 0 0] 30)) (some ⟨w.heap.size + 1 + 1, 0, none⟩) 2 2 [[1, 2], []] := by
  have h := heap_alloc_new ((w.alloc (.cells #[.int .u8 1, .int .u8 2] 5)).alloc (.cells #[] 5)) (.cells #[.slice (some ⟨w.heap.size, 0, none⟩) 2 2, .slice (some ⟨w.heap.size + 1, 0, none⟩) 0 0] 30)
  rw [show ((w.alloc (.cells #[.int .u8 1, .int .u8 2] 5)).alloc (.cells #[] 5)).heap.size = w.heap.size + 1 + 1 by simp] at h
  have h12 := (lit12 w).later ((((Below.refl _ _).alloc (Nat.le_refl _) (.cells #[] 5))).alloc (by simp) (.cells #[.slice (some ⟨w.heap.size, 0, none⟩) 2 2, .slice (some ⟨w.heap.size + 1, 0, none⟩) 0 0] 30))
  refine ⟨rfl, Nat.le_refl _, by unfold maxLen; omega, (fun e => by cases e), fun i hi => ?_⟩
  match i, hi with
  | 0, _ => exact ⟨_, 0, _, _, _, rfl, cell_of_row _ _ _ _ _ _ h, h12⟩
  | 1, _ => exact ⟨_, 0, _, _, _, rfl, cell_of_row _ _ _ _ _ _ h, ⟨rfl, Nat.le_refl _, by unfold maxLen; omega, fun h => absurd rfl h, fun e => by cases e⟩⟩
theorem LedRow.below {w w' : World} {l d : Nat} {nm : ByteArray} {n sz : Int} {br : Bool} (h : LedRow w l d nm n sz br) (hb : Below w.heap.size w w') : LedRow w' l d nm n sz br := (hb.block l (heap_lt h)).trans h
set_option maxRecDepth 100000 in
set_option maxHeartbeats 2000000 in
theorem awake_any (w : World) : Calls Try.prog 13 #[] w fun e w' => e = .returned (.bool true) ∧ Below w.heap.size w w' := by
  obtain ⟨base, hbase⟩ : ∃ b, b = w.heap.size := ⟨_, rfl⟩
  have HBASE := Lib.hid hbase
  go_enter Try.func13, Try.ntmps13
  go_wp2_with fail
  refine (New_zero w).mono ?_
  rintro e w1 ⟨d, mb, rfl, hd, hb1⟩
  rw [← hbase] at hd hb1
  have hs1 : base ≤ w1.heap.size := by have := hb1.size; omega
  have HX1 := Lib.hid (And.intro hs1 (And.intro hd hb1))
  clear hs1 hd hb1 hbase
  go_wp2_with fail
  refine (opened_S base d mb 0 0 _ _ [] ⟨logN, 0, 0, false⟩ 0 w1 HX1.out.1 HX1.out.2.1 zeroG_lim (by omega) (by omega) (open_zero logN_name) rfl (.inr rfl)).mono ?_
  rintro e w2 ⟨l, v, rfl, hl, hlr, hd2, hls, hf2⟩
  obtain ⟨va, vc, rfl, _⟩ := hls.reads
  have hlb : base ≤ l := Nat.le_trans HX1.out.1 hl
  have hs2 : base ≤ w2.heap.size := Nat.le_trans HX1.out.1 hf2.below.size
  have HX2 := Lib.hid (And.intro hlb (And.intro hs2 (And.intro hlr (And.intro hd2 hf2.below))))
  clear hl hlr hd2 hls hf2 hlb hs2
  have hb3 : Below w2.heap.size w2 (w2.alloc (.cells #[.int .u8 1, .int .u8 2] 5)) := (Below.refl _ _).alloc (Nat.le_refl _) _
  have HB3 := Lib.hid (And.intro hb3 (lit12 w2))
  clear hb3
  go_wp2_with fail
  have ha := @Add_S Z0 base d mb l 30 10 ⟨logN, 0, 0, false⟩ (oneG logN [] 2 0) _ 2 2 [1, 2] _ (by decide) (Nat.le_trans HX2.out.2.1 HB3.out.1.size) HX2.out.1 (HX2.out.2.2.1.below HB3.out.1) (@DSig.later Z0 _ _ _ _ _ _ HX2.out.2.2.2.1 HB3.out.1) HB3.out.2 (oneG_lim (by decide) (by decide) (by decide) (by decide)) ⟨by decide, by decide, by decide, by decide⟩ (by decide) (by decide)
  rw [add_one logN_name [1, 2] (by decide) (by decide)] at ha
  refine ha.mono ?_
  clear ha
  rintro e w3 ⟨rfl, hd3, hl3, hf3⟩
  have hl3' : LedRow w3 l d logN 1 14 false := hl3
  have hd3' : @DSig Z0 w3 d mb base (oneG logN ([] ++ Fr.putF [1, 2]) 4 0) := hd3
  have HX3 := Lib.hid (And.intro (Nat.le_trans (Nat.le_trans HX2.out.2.1 HB3.out.1.size) hf3.below.size) (And.intro hl3' (And.intro hd3' (HX2.out.2.2.2.2.trans ((HB3.out.1.mono HX2.out.2.1).trans hf3.below)))))
  clear hd3 hl3 hf3 hl3' hd3'
  go_wp2_with fail
  have ha := @Add_S Z0 base d mb l 30 10 ⟨logN, 1, 14, false⟩ (oneG logN ([] ++ Fr.putF [1, 2]) 4 0) none 0 0 [] _ (by decide) HX3.out.1 HX2.out.1 HX3.out.2.1 HX3.out.2.2.1 (IsBytes.nil _) (oneG_lim (by rw [List.nil_append, putF_len]; decide) (by decide) (by decide) (by decide)) ⟨by decide, by decide, by decide, by decide⟩ (by decide) (by decide)
  rw [add_one logN_name [] (by decide) (by rw [List.nil_append, putF_len]; decide)] at ha
  refine ha.mono ?_
  clear ha
  rintro e w4 ⟨rfl, hd4, hl4, hf4⟩
  have hl4' : LedRow w4 l d logN 2 26 false := hl4
  have hd4' : @DSig Z0 w4 d mb base (oneG logN ([] ++ Fr.putF [1, 2] ++ Fr.putF []) 6 0) := hd4
  have HX4 := Lib.hid (And.intro (Nat.le_trans HX3.out.1 hf4.below.size) (And.intro hl4' (And.intro hd4' (HX3.out.2.2.2.trans hf4.below))))
  clear hd4 hl4 hf4 hl4' hd4'
  go_wp2_with fail
  refine (Len_any l d logN 2 26 false w4 HX4.out.2.1).mono ?_
  rintro e w5 ⟨rfl, rfl⟩
  go_wp2_with fail
  refine (Size_any l d logN 2 26 false w4 HX4.out.2.1).mono ?_
  rintro e w5 ⟨rfl, rfl⟩
  go_wp2_with fail
  refine (opened_S base d mb 30 10 _ _ [[1, 2], []] ⟨logN, 2, 26, false⟩ 2 w4 HX4.out.1 HX4.out.2.2.1 (oneG_lim (by simp [putF_len]) (by decide) (by decide) (by decide)) (by decide) (by decide) (open_one scan_two) rfl (.inr rfl)).mono ?_
  rintro e w6 ⟨l2, v, rfl, _, _, _, hls6, hf6⟩
  obtain ⟨la, lc, rfl, hll⟩ := hls6.reads
  have HX6 := Lib.hid (And.intro hll (And.intro (HX4.out.2.2.2.trans hf6.below) (Nat.le_trans HX4.out.1 hf6.below.size)))
  clear hls6 hf6 hll
  go_wp2_with fail
  have hB7 : Below w6.heap.size w6 (((w6.alloc (.cells #[.int .u8 1, .int .u8 2] 5)).alloc (.cells #[] 5)).alloc (.cells #[.slice (some ⟨w6.heap.size, 0, none⟩) 2 2, .slice (some ⟨w6.heap.size + 1, 0, none⟩) 0 0] 30)) := (((Below.refl _ _).alloc (Nat.le_refl _) _).alloc (by simp) _).alloc (by simp; omega) _
  refine (SameLists_any la (some ⟨w6.heap.size + 1 + 1, 0, none⟩) 2 2 lc 2 [[1, 2], []] [[1, 2], []] _ (HX6.out.1.later hB7) (lit_lists w6)).mono ?_
  have HB7 := Lib.hid hB7
  clear hB7
  generalize (World.alloc (World.alloc (World.alloc w6 _) _) _) = w7 at HB7 ⊢
  rintro e w8 ⟨rfl, q, rfl⟩
  rw [show (([[1, 2], []] : List (List UInt8)) == [[1, 2], []]) = true from rfl]
  go_wp2_with fail
  go_ret
  refine ⟨rfl, ?_⟩
  rw [← HBASE.out]
  exact below_drewN (HX1.out.2.2.trans (HX6.out.2.1.trans (HB7.out.mono HX6.out.2.2))) q
end Go.Proofs.Ytgbpgmbnihfkkaa

/- LedgerKnown, plainly: what the calls make of the disk -/
set_option linter.unusedSimpArgs false
set_option linter.unusedVariables false
namespace Go.Proofs.Ytgbpgmbnihfkkaa
open Go.RowKit
set_option linter.unusedSectionVars false
def xN : ByteArray := ⟨#[120]⟩
def yN : ByteArray := ⟨#[121]⟩
theorem xN_name : nameP xN.data.toList = true := by decide
theorem yN_name : nameP yN.data.toList = true := by decide
theorem lx_ne : logN ≠ xN := by decide
theorem ly_ne : logN ≠ yN := by decide
theorem xy_ne : xN ≠ yN := by decide
theorem lx_less : Op.bytesLess logN.toList xN.toList = true := by rw [Lib.toList_data, Lib.toList_data]; decide
theorem ly_less : Op.bytesLess logN.toList yN.toList = true := by rw [Lib.toList_data, Lib.toList_data]; decide
theorem xy_less : Op.bytesLess xN.toList yN.toList = true := by rw [Lib.toList_data, Lib.toList_data]; decide
theorem atZ_x1 (a : List UInt8 × List Deed) : atZ xN [(logN, a)] = -1 := (AtR.eq (z := -1) (.inr ⟨rfl, fun j hj => by
  match j, hj with
  | 0, _ => exact lx_ne⟩)).symm
theorem atZ_y2 (a b : List UInt8 × List Deed) : atZ yN [(logN, a), (xN, b)] = -1 := (AtR.eq (z := -1) (.inr ⟨rfl, fun j hj => by
  match j, hj with
  | 0, _ => exact ly_ne
  | 1, _ => exact xy_ne⟩)).symm
theorem atZ_x3 (a b c : List UInt8 × List Deed) : atZ xN [(logN, a), (xN, b), (yN, c)] = 1 := (AtR.eq (z := 1) (.inl ⟨1, rfl, by simp, rfl, fun j hj => by
  match j, hj with
  | 0, _ => exact lx_ne⟩)).symm
theorem atZ_y3 (a b c : List UInt8 × List Deed) : atZ yN [(logN, a), (xN, b), (yN, c)] = 2 := (AtR.eq (z := 2) (.inl ⟨2, rfl, by simp, rfl, fun j hj => by
  match j, hj with
  | 0, _ => exact ly_ne
  | 1, _ => exact xy_ne⟩)).symm
theorem insK_x1 (a : List UInt8 × List Deed) : insK xN [(logN, a)] = 1 := (InsAt.eq (k := 1) ⟨by simp, fun j hj => by
  match j, hj with
  | 0, _ => exact lx_less, fun h => absurd h (by simp)⟩).symm
theorem insK_y2 (a b : List UInt8 × List Deed) : insK yN [(logN, a), (xN, b)] = 2 := (InsAt.eq (k := 2) ⟨by simp, fun j hj => by
  match j, hj with
  | 0, _ => exact ly_less
  | 1, _ => exact xy_less, fun h => absurd h (by simp)⟩).symm
theorem fuse_one {S : List UInt8} {N lf : Int} : fuseG 1 (oneG logN S N lf) = (0, ⟨[(logN, S, [])], N, true, 1, false⟩) := rfl
theorem doneG_fuse {R R' : List FileV} {N : Int} {o : Bool} : doneG ⟨R, N, true, 1, o⟩ R' = (0, ⟨R', N + 1, true, 0, false⟩) := by
  unfold doneG
  simp
theorem doneG_out {R R' : List FileV} {N : Int} {o : Bool} : doneG ⟨R, N, true, 0, o⟩ R' = (10, ⟨R, N, true, 0, true⟩) := by
  unfold doneG
  simp
theorem add_broken {S : List UInt8} {N n z : Int} (hS : S.length + 13 ≤ 1048576) :
    addG [7] ⟨logN, n, z, false⟩ ⟨[(logN, S, [])], N, true, 1, false⟩ = (10, ⟨logN, n, z, true⟩, ⟨[(logN, S, [.more (Fr.putF [7])])], N + 1, true, 0, true⟩) := by
  have hp := putF_len [7]
  have hp : (Fr.putF [7]).length = 13 := hp
  have hne : Fr.putF [7] ≠ [] := fun e => by rw [e] at hp; cases hp
  have hadd : addB (Fr.putF [7]) = [.more (Fr.putF [7])] := by unfold addB; rw [if_neg hne]
  have h1 : appG logN (Fr.putF [7]) ⟨[(logN, S, [])], N, true, 1, false⟩ = (0, ⟨[(logN, S, [.more (Fr.putF [7])])], N + 1, true, 0, false⟩) := by
    unfold appG
    rw [if_neg (by simp), if_neg (by rw [logN_name]; simp)]
    dsimp only
    rw [if_neg (by rw [atZ_one]; decide), atZ_one]
    rw [if_neg (by simp [runD]; omega), doneG_fuse, hadd]
    simp
  have h2 : syncG logN ⟨[(logN, S, [.more (Fr.putF [7])])], N + 1, true, 0, false⟩ = (10, ⟨[(logN, S, [.more (Fr.putF [7])])], N + 1, true, 0, true⟩) := by
    unfold syncG
    rw [if_neg (by simp)]
    dsimp only
    rw [if_neg (by rw [atZ_one]; decide), doneG_out]
  unfold addG
  dsimp only
  rw [if_neg (by simp), if_neg (by simp), h1]
  dsimp only
  rw [if_neg (by simp), if_neg (by simp), h2, if_pos (by simp)]
theorem add_state {L : LSig} {g : Sig} {B : List UInt8} (h : L.br = true) : addG B L g = (9, L, g) := by
  unfold addG
  rw [if_pos h]
theorem crash_one {S F : List UInt8} {N lf : Int} {fz o : Bool} (hF : F.length = 13) : crashG [20] ⟨[(logN, S, [.more F])], N, fz, lf, o⟩ = (0, oneG logN (S ++ F.take 6) N 0) := by
  unfold crashG oneG crashL
  have hu : unitK [20] 0 [.more F] = 6 := by
    unfold unitK
    have : unitsD [.more F] = 13 := by simp [unitsD, Deed.units, hF]
    rw [this]
    simp
  simp only [List.mapIdx_cons, List.mapIdx_nil, crashAt, hu]
  have : keepsD (Int.toNat 6) [.more F] = [.more (F.take 6)] := by
    rw [show Int.toNat 6 = 6 from rfl, keepsD_more _ _ (by omega), hF]
    rfl
  rw [this]
  simp [runD]
/-- what is torn. -/
theorem scan_torn : Fr.scanF ((Fr.putF [1, 2] ++ Fr.putF []) ++ (Fr.putF [7]).take 6) = ([[1, 2], []], 26, 1) := by
  have hp : (Fr.putF [7]).length = 13 := putF_len [7]
  have h := Fr.scanF_put [1, 2] (Fr.putF [] ++ (Fr.putF [7]).take 6) (by simp)
  have h2 := Fr.scanF_put [] ((Fr.putF [7]).take 6) (by simp)
  have h3 : Fr.scanF ((Fr.putF [7]).take 6) = ([], 0, 1) := by
    have e : Fr.headF ((Fr.putF [7]).take 6) = .inl 1 := by
      unfold Fr.headF
      have : ((Fr.putF [7]).take 6).length = 6 := by simp [hp]
      rw [if_pos (by omega), if_neg (by omega)]
    rw [Fr.scanF_eq, e]
  rw [h3] at h2
  rw [h2] at h
  rw [List.append_assoc, h]
  rfl
theorem scan_five : Fr.scanF [5] = ([], 0, 1) := by
  rw [Fr.scanF_eq]
  rfl
theorem scan_zeros : Fr.scanF [0, 0, 0, 0, 0, 0, 0, 0] = ([], 0, 2) := by
  rw [Fr.scanF_eq]
  have e : Fr.headF [0, 0, 0, 0, 0, 0, 0, 0] = .inl 2 := by
    unfold Fr.headF
    rw [if_neg (by simp), if_pos (by simp [Fr.num4])]
  rw [e]
theorem cut_one {S : List UInt8} {N lf : Int} {z : Nat} (hz : z ≤ S.length) : cutG logN (z : Nat) (oneG logN S N lf) = (0, ⟨[(logN, S, [.cut z])], N + 1, false, lf, false⟩) := by
  unfold cutG oneG
  rw [if_neg (by simp)]
  dsimp only
  rw [if_neg (by rw [atZ_one]; decide), atZ_one, if_neg (by simp [runD]; omega), doneG_free]
  simp
theorem open_torn {S t : List UInt8} {N lf : Int} {recs : List (List UInt8)} {sz : Nat} (h : Fr.scanF (S ++ t) = (recs, sz, 1)) (hs : S.length = sz) : openG logN (oneG logN (S ++ t) N lf) = (0, some ⟨logN, (recs.length : Nat), (sz : Nat), false⟩, recs, oneG logN S (N + 2) lf) := by
  unfold openG
  rw [read_one, if_neg (by simp), if_neg (by simp), h]
  dsimp only
  rw [if_neg (by simp), if_pos rfl, cut_one (by simp; omega), if_neg (by simp)]
  unfold openE
  rw [sync_one, if_neg (by simp)]
  rw [show N + 1 + 1 = N + 2 by omega]
  have : runD (S ++ t) [.cut sz] = S := by simp [runD, ← hs]
  rw [this]
def twoG (S : List UInt8) (X : List UInt8 × List Deed) (N : Int) : Sig := ⟨[(logN, S, []), (xN, X)], N, false, 0, false⟩
def threeG (S : List UInt8) (X Y : List UInt8 × List Deed) (N : Int) : Sig := ⟨[(logN, S, []), (xN, X), (yN, Y)], N, false, 0, false⟩
theorem app_x {S : List UInt8} {N : Int} : appG xN [5] (oneG logN S N 0) = (0, twoG S ([], [.more [5]]) (N + 1)) := by
  unfold appG oneG
  rw [if_neg (by simp), if_neg (by rw [xN_name]; simp)]
  dsimp only
  rw [if_pos (by rw [atZ_x1]; decide), if_neg (by simp), if_neg (by simp), insK_x1, doneG_free]
  rfl
theorem app_y {S : List UInt8} {N : Int} {X : List UInt8 × List Deed} : appG yN [0, 0, 0, 0, 0, 0, 0, 0] (twoG S X N) = (0, threeG S X ([], [.more [0, 0, 0, 0, 0, 0, 0, 0]]) (N + 1)) := by
  unfold appG twoG
  rw [if_neg (by simp), if_neg (by rw [yN_name]; simp)]
  dsimp only
  rw [if_pos (by rw [atZ_y2]; decide), if_neg (by simp), if_neg (by simp), insK_y2, doneG_free]
  rfl
theorem read_x {S : List UInt8} {N : Int} {X Y : List UInt8 × List Deed} : readG xN (threeG S X Y N) = (0, runD X.1 X.2) := by
  unfold readG threeG
  rw [if_neg (by simp)]
  dsimp only
  rw [if_neg (by rw [atZ_x3]; decide), atZ_x3]
  rfl
theorem read_y {S : List UInt8} {N : Int} {X Y : List UInt8 × List Deed} : readG yN (threeG S X Y N) = (0, runD Y.1 Y.2) := by
  unfold readG threeG
  rw [if_neg (by simp)]
  dsimp only
  rw [if_neg (by rw [atZ_y3]; decide), atZ_y3]
  rfl
theorem cut_x {S : List UInt8} {N : Int} {Y : List UInt8 × List Deed} : cutG xN (0 : Nat) (threeG S ([], [.more [5]]) Y N) = (0, threeG S ([], [.more [5], .cut 0]) Y (N + 1)) := by
  unfold cutG threeG
  rw [if_neg (by simp)]
  dsimp only
  rw [if_neg (by rw [atZ_x3]; decide), atZ_x3, if_neg (by simp), doneG_free]
  rfl
theorem sync_x {S : List UInt8} {N : Int} {X Y : List UInt8 × List Deed} : syncG xN (threeG S X Y N) = (0, threeG S (runD X.1 X.2, []) Y (N + 1)) := by
  unfold syncG threeG
  rw [if_neg (by simp)]
  dsimp only
  rw [if_neg (by rw [atZ_x3]; decide), atZ_x3, doneG_free]
  rfl
theorem open_x {S : List UInt8} {N : Int} {Y : List UInt8 × List Deed} : openG xN (threeG S ([], [.more [5]]) Y N) = (0, some ⟨xN, 0, 0, false⟩, [], threeG S ([], []) Y (N + 2)) := by
  unfold openG
  rw [read_x, if_neg (by simp), if_neg (by simp)]
  rw [show runD [] [Deed.more [5]] = [5] from rfl, scan_five]
  dsimp only
  rw [if_neg (by simp), if_pos rfl, cut_x, if_neg (by simp)]
  unfold openE
  rw [sync_x, if_neg (by simp)]
  rw [show N + 1 + 1 = N + 2 by omega]
  rfl
theorem open_y {S : List UInt8} {N : Int} {X : List UInt8 × List Deed} : openG yN (threeG S X ([], [.more [0, 0, 0, 0, 0, 0, 0, 0]]) N) = (4, none, [], threeG S X ([], [.more [0, 0, 0, 0, 0, 0, 0, 0]]) N) := by
  unfold openG
  rw [read_y, if_neg (by simp), if_neg (by simp)]
  rw [show runD [] [Deed.more [0, 0, 0, 0, 0, 0, 0, 0]] = [0, 0, 0, 0, 0, 0, 0, 0] from rfl, scan_zeros]
  rw [if_pos rfl]
end Go.Proofs.Ytgbpgmbnihfkkaa
