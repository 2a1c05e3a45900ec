/- the document's answer: among, Whole, Above -/
import Derived.Test.YtbidappkmnedaaaJRefC
import Derived.Test.YtbidappkmnedaaaJWhole
import Derived.Test.YtbidappkmnedaaaJAboveL
namespace Go.Proofs.Ytbidappkmnedaaa
open Go.RowKit
theorem contains_at {L : List Int} {k : Nat} {x : Int} (hk : k < L.length) (h : L.getD k 0 = x) : L.contains x = true := by
  rw [List.contains_iff_mem, ← h]; exact getD_memI hk
theorem contains_no {L : List Int} {x : Int} (h : ∀ i, i < L.length → L.getD i 0 ≠ x) : L.contains x = false := by
  rw [← Bool.not_eq_true, List.contains_iff_mem]
  intro hm
  obtain ⟨i, hi, e⟩ := mem_getDI hm
  exact h i hi e
set_option maxRecDepth 100000 in
theorem amongR_any (ao : Option Addr) (n cap : Nat) (L : List Int) (x : Int) (w : World) (h : IsInts w ao n cap L) :
    Calls Try.prog 41 #[.slice ao n cap, .int .i64 x] w fun e w' => e = .returned (.bool (L.contains x)) ∧ w' = w := by
  obtain ⟨hl, hnc, hcm, hc, h0⟩ := h
  unfold maxLen at hcm
  obtain ⟨r, hr⟩ : ∃ r, r = L.contains x := ⟨_, rfl⟩
  rw [← hr]
  have HR := Lib.hid hr
  have HL := Lib.hid hl
  have HC := Lib.hid hc
  clear hl hc hr
  go_enter Try.func41, Try.ntmps41
  go_wp2
  go_loop [5] (fun i => ∃ k : Nat, k ≤ n ∧ i = .int .i64 k ∧ Hid (∀ i, i < k → L.getD i 0 ≠ x)) (fun i => n - (intOf i).toNat)
  case atStart => exact ⟨0, by omega, rfl, fun i hi => absurd hi (by omega)⟩
  case round =>
    obtain ⟨k, hk, rfl, hall⟩ := hrel
    by_cases hlt : k < n
    · have hi0 : (0 : Int) ≤ (k : Int) := by omega
      have hi5 : (k : Int) < (n : Int) := by omega
      obtain ⟨b, off, rfl, hcs⟩ := HC.out (by omega)
      obtain ⟨y, hy⟩ : ∃ y, y = L.getD k 0 := ⟨_, rfl⟩
      have hk0 := hcs k hlt
      rw [← hy] at hk0
      have HY := Lib.hid hy
      clear hcs hy
      by_cases hx : y = x
      · have HT : Hid (r = true) := by rw [HR.out]; exact Lib.hid (contains_at (by rw [HL.out]; exact hlt) (by rw [← HY.out]; exact hx))
        go_wp2_with fail
        go_ret
        exact ⟨by rw [HT.out]; rfl, rfl⟩
      · have hxb : (y == x) = false := by simpa using hx
        have HX := Lib.hid hx
        go_wp2_with fail
        go_round
        case rel =>
          refine ⟨k + 1, by omega, by go_num, fun i hi => ?_⟩
          by_cases hik : i < k
          · exact hall.out i hik
          · obtain rfl : i = k := by omega
            rw [← HY.out]; exact HX.out
        case measure => simp [intOf]; omega
    · obtain rfl : k = n := by omega
      have HT : Hid (r = false) := by rw [HR.out]; exact Lib.hid (contains_no (fun i hi => hall.out i (by rw [← HL.out]; exact hi)))
      go_wp2
      go_ret
      exact ⟨by rw [HT.out]; rfl, rfl⟩
set_option maxRecDepth 100000 in
set_option maxHeartbeats 2000000 in
theorem WholeR_any (ao : Option Addr) (n cap : Nat) (L : List Jur) (bo : Option Addr) (m cap2 : Nat) (ids : List Int) (w : World) (h : IsJurs w ao n cap L) (h2 : IsInts w bo m cap2 ids) :
    Calls Try.prog 24 #[.slice ao n cap, .slice bo m cap2] w fun e w' => e = .returned (.bool (wholeP L ids)) ∧ Grew w w' := by
  obtain ⟨ce, hce⟩ : ∃ c, c = (checkP L).1 := ⟨_, rfl⟩
  obtain ⟨ci, hci⟩ : ∃ c, c = (checkP L).2 := ⟨_, rfl⟩
  have hck := CheckR_any ao n cap L w h
  rw [← hce, ← hci] at hck
  have HCK := Lib.hid hck
  have HCE := Lib.hid hce
  have HJ := Lib.hid h
  have HI := Lib.hid h2
  have HLI : Hid (ids.length = m) := h2.1
  have hmc := h2.2.1
  have hmm := h2.2.2.1
  unfold maxLen at hmm
  obtain ⟨r, hr⟩ : ∃ r, r = wholeP L ids := ⟨_, rfl⟩
  rw [← hr]
  have HR := Lib.hid hr
  by_cases hc0 : ce = 0
  · subst hc0
    clear h h2 hck hce hci hr
    go_enter Try.func24, Try.ntmps24
    go_wp2_with fail
    refine HCK.out.mono ?_
    rintro e w1 ⟨rfl, hg1⟩
    have HG1 := Lib.hid hg1
    clear hg1
    go_wp2_with fail
    go_loopw [7] (fun i wr => ∃ k : Nat, k ≤ m ∧ i = .int .i64 k ∧ Hid (∀ j, j < k → wholeAt L ids (ids.getD j 0) = true) ∧ Hid (Grew w wr)) (fun i _ => m - (intOf i).toNat)
    case atStart => exact ⟨0, by omega, rfl, fun j hj => absurd hj (by omega), HG1.out⟩
    case round =>
      obtain ⟨k, hk, rfl, hall, hgr⟩ := hrel
      by_cases hlt : k < m
      · have hi0 : (0 : Int) ≤ (k : Int) := by omega
        have hi1 : (k : Int) < (m : Int) := by omega
        obtain ⟨b, off, rfl, hcs⟩ := (HI.out.grew hgr.out).2.2.2.1 (by omega)
        have hc := hcs k hlt
        obtain ⟨x, hx⟩ : ∃ x, x = ids.getD k 0 := ⟨_, rfl⟩
        rw [← hx] at hc
        have hfa := FindR_any ao n cap L x wr (HJ.out.grew hgr.out)
        have hbad : wholeAt L ids x = false → r = false := fun h => by rw [HR.out]; exact wholeP_bad (k := k) (by rw [HLI.out]; exact hlt) (by rw [← hx]; exact h)
        have hgood : wholeAt L ids x = true → ∀ j, j < k + 1 → wholeAt L ids (ids.getD j 0) = true := fun h j hj => by
          by_cases hjk : j < k
          · exact hall.out j hjk
          · obtain rfl : j = k := by omega
            rw [← hx]; exact h
        have HBAD := Lib.hid hbad
        have HGOOD := Lib.hid hgood
        clear hcs hx hbad hgood
        cases ha : atJ L x with
        | none =>
          have hf : findP L x = (j0, false) := by unfold findP; rw [ha]
          have hw : wholeAt L ids x = false := by unfold wholeAt; rw [ha]
          rw [hf] at hfa
          unfold j0 Jur.val Jur.row at hfa
          dsimp only at hfa
          have HF := Lib.hid hfa
          have HW := Lib.hid hw
          clear hf hw hfa ha
          go_wp2_with fail
          refine HF.out.mono ?_
          rintro e w2 ⟨rfl, hg2⟩
          go_wp2_with fail
          go_ret
          exact ⟨by rw [HBAD.out HW.out]; rfl, (hgr.out.trans hg2).alloc _⟩
        | some i =>
          obtain ⟨c, hcc⟩ : ∃ c, c = L.getD i j0 := ⟨_, rfl⟩
          have hf : findP L x = (c, true) := by unfold findP; rw [ha, hcc]
          have hw : wholeAt L ids x = (decide (c.pa = 0) || ids.contains c.pa) := by unfold wholeAt; rw [ha, hcc]
          rw [hf] at hfa
          obtain ⟨d1, d2, d3, d4, d5, d6, d7⟩ := c
          dsimp only at hw
          unfold Jur.val Jur.row at hfa
          dsimp only at hfa
          have HF := Lib.hid hfa
          have HW := Lib.hid hw
          clear hf hw hfa ha hcc
          by_cases hp : d3 = 0
          · subst hp
            have hwt : wholeAt L ids x = true := by rw [HW.out]; simp
            have HT := Lib.hid (HGOOD.out hwt)
            clear hwt
            go_wp2_with fail
            refine HF.out.mono ?_
            rintro e w2 ⟨rfl, hg2⟩
            go_wp2_with fail
            go_roundw
            case rel => exact ⟨k + 1, by omega, by go_num, HT.out, (hgr.out.trans hg2).alloc _⟩
            case measure => simp [intOf]; omega
          · have hp1 : (d3 == 0) = false := by simpa using hp
            have hp2 : (d3 != 0) = true := by simpa using hp
            obtain ⟨q, hq⟩ : ∃ q, q = ids.contains d3 := ⟨_, rfl⟩
            have hwt : wholeAt L ids x = q := by rw [HW.out, hq]; simp [hp]
            have hcn : ∀ w', Grew w w' → Calls Try.prog 41 #[.slice (some ⟨b, off, none⟩) m cap2, .int .i64 d3] w' fun e w2 => e = .returned (.bool q) ∧ w2 = w' := fun w' hg => by rw [hq]; exact amongR_any _ m cap2 ids d3 w' (HI.out.grew hg)
            have HCN := Lib.hid hcn
            have HWT := Lib.hid hwt
            clear hp hq hwt hcn
            cases q with
            | true =>
              have HT := Lib.hid (HGOOD.out HWT.out)
              go_wp2_with fail
              refine HF.out.mono ?_
              rintro e w2 ⟨rfl, hg2⟩
              have HG2 := Lib.hid ((hgr.out.trans hg2).alloc (Obj.cells #[.int .i64 d1, .int .i64 d2, .int .i64 d3, .int .i64 d4, .slice d5 d6 d7] 33))
              clear hg2
              go_wp2_with fail
              refine (HCN.out _ HG2.out).mono ?_
              rintro e w3 ⟨rfl, rfl⟩
              go_wp2_with fail
              go_roundw
              case rel => exact ⟨k + 1, by omega, by go_num, HT.out, HG2.out⟩
              case measure => simp [intOf]; omega
            | false =>
              go_wp2_with fail
              refine HF.out.mono ?_
              rintro e w2 ⟨rfl, hg2⟩
              have HG2 := Lib.hid ((hgr.out.trans hg2).alloc (Obj.cells #[.int .i64 d1, .int .i64 d2, .int .i64 d3, .int .i64 d4, .slice d5 d6 d7] 33))
              clear hg2
              go_wp2_with fail
              refine (HCN.out _ HG2.out).mono ?_
              rintro e w3 ⟨rfl, rfl⟩
              go_wp2_with fail
              go_ret
              exact ⟨by rw [HBAD.out HWT.out]; rfl, HG2.out⟩
      · obtain rfl : k = m := by omega
        have ht : r = true := by rw [HR.out]; exact wholeP_good HCE.out.symm (fun j hj => hall.out j (by rw [← HLI.out]; exact hj))
        have HT := Lib.hid ht
        clear ht
        go_wp2_with fail
        go_ret
        exact ⟨by rw [HT.out]; rfl, hgr.out⟩
  · have hcb : (ce == 0) = false := by simpa using hc0
    have hcn : (ce != 0) = true := by simpa using hc0
    have hrf : r = false := by rw [hr]; unfold wholeP; rw [← hce]; simp [hc0]
    have HRF := Lib.hid hrf
    clear h h2 hck hce hci hc0 hr hrf
    go_enter Try.func24, Try.ntmps24
    go_wp2_with fail
    refine HCK.out.mono ?_
    rintro e w1 ⟨rfl, hg1⟩
    go_wp2_with fail
    go_ret
    exact ⟨by rw [HRF.out]; rfl, hg1⟩
def sliceLen : Value → Nat
  | .slice _ n _ => n
  | _ => 0
theorem chain_zero {L : List Jur} {z : Int} {i : Nat} {zs : List Int} (h : Chain L z zs) (ha : atJ L z = some i) (hp : (L.getD i j0).pa = 0) : zs = [] := by
  cases h with
  | none hn => rfl
  | top hb hp => rfl
  | on hb hq _ => rw [ha] at hb; cases hb; exact absurd hp hq
theorem chain_more {L : List Jur} {z : Int} {i : Nat} {zs : List Int} (h : Chain L z zs) (ha : atJ L z = some i) (hp : (L.getD i j0).pa ≠ 0) : ∃ ys, zs = (L.getD i j0).pa :: ys ∧ Chain L (L.getD i j0).pa ys := by
  cases h with
  | none hn => rw [ha] at hn; cases hn
  | top hb hq => rw [ha] at hb; cases hb; exact absurd hq hp
  | on hb hq hc => rw [ha] at hb; cases hb; exact ⟨_, rfl, hc⟩
set_option maxRecDepth 100000 in
set_option maxHeartbeats 2000000 in
theorem AboveR_any (ao : Option Addr) (n cap : Nat) (L : List Jur) (x : Int) (zs : List Int) (w : World) (h : IsJurs w ao n cap L) (hz : (checkP L).1 = 0 → Chain L x zs) (hz0 : (checkP L).1 ≠ 0 → zs = []) (hzl : zs.length ≤ 1000) :
    Calls Try.prog 22 #[.slice ao n cap, .int .i64 x] w fun e w' => ∃ v, e = .returned v ∧ OwnI w' w.heap.size v zs ∧ Below w.heap.size w w' := by
  have HJ := Lib.hid h
  have HL : Hid (L.length = n) := h.1
  obtain ⟨ce, hce⟩ : ∃ c, c = (checkP L).1 := ⟨_, rfl⟩
  obtain ⟨ci, hci⟩ : ∃ c, c = (checkP L).2 := ⟨_, rfl⟩
  have hck := CheckR_any ao n cap L w h
  rw [← hce, ← hci] at hck
  have HCK := Lib.hid hck
  have HCE := Lib.hid hce
  have HZL := Lib.hid hzl
  have hat : ∀ W, Grew w W → Calls Try.prog 32 #[.slice ao n cap, .int .i64 x] W fun e w' => e = .returned (.int .i64 (placeJ L x)) ∧ Grew W w' := fun W hW => atR_any ao n cap L x W (h.grew hW)
  have HAT := Lib.hid hat
  obtain ⟨base, hbase⟩ : ∃ b, b = w.heap.size := ⟨_, rfl⟩
  have HB := Lib.hid hbase
  have HBL : Hid (w.heap.size ≤ base) := by rw [hbase]; exact Nat.le_refl _
  rw [← hbase]
  clear h hck hce hci hat hzl hbase
  by_cases hc0 : ce = 0
  · subst hc0
    have HZ := Lib.hid (hz HCE.out.symm)
    clear hz hz0
    cases ha : atJ L x with
    | none =>
      have hp : placeJ L x = -1 := by unfold placeJ; rw [ha]
      rw [hp] at HAT
      have he : zs = [] := HZ.out.unique (.none ha)
      subst he
      clear ha hp
      go_enter Try.func22, Try.ntmps22
      go_wp2_with fail
      refine HCK.out.mono ?_
      rintro e w1 ⟨rfl, hg1⟩
      have HG1 := Lib.hid hg1
      clear hg1
      go_wp2_with fail
      refine (HAT.out _ HG1.out).mono ?_
      rintro e w2 ⟨rfl, hg2⟩
      go_wp2_with fail
      go_ret
      refine ⟨_, rfl, OwnI.nil _ _, ?_⟩
      rw [HB.out]; exact (HG1.out.trans hg2).1
    | some i0 =>
      have hp : placeJ L x = (i0 : Int) := by unfold placeJ; rw [ha]
      rw [hp] at HAT
      have hin : ¬ ((i0 : Int) < 0) := by omega
      have HA := Lib.hid ha
      clear ha hp
      go_enter Try.func22, Try.ntmps22
      go_wp2_with fail
      refine HCK.out.mono ?_
      rintro e w1 ⟨rfl, hg1⟩
      have HG1 := Lib.hid hg1
      clear hg1
      go_wp2_with fail
      refine (HAT.out _ HG1.out).mono ?_
      rintro e w2 ⟨rfl, hg2⟩
      have HB2 : Hid (Below base w w2) := by rw [HB.out]; exact Lib.hid (HG1.out.trans hg2).1
      clear hg2
      go_wp2_with fail
      go_loopw [7, 8] (fun i v wr => ∃ (k : Nat) (y : Int) (pre rest : List Int), i = .int .i64 k ∧ Hid (atJ L y = some k) ∧ Hid (Chain L y rest) ∧ Hid (zs = pre ++ rest) ∧ Hid (OwnI wr base v pre) ∧ Hid (Below base w wr)) (fun _ v _ => zs.length - sliceLen v)
      case atStart => exact ⟨i0, x, [], zs, rfl, HA.out, HZ.out, rfl, OwnI.nil _ _, HB2.out⟩
      case round =>
        obtain ⟨k, y, pre, rest, rfl, hay, hch, hzs, hown, hbl⟩ := hrel
        have hkl : k < n := by rw [← HL.out]; exact (atJ_lt hay.out).1
        have hk0 : (0 : Int) ≤ (k : Int) := by omega
        have hk1 : (k : Int) < (n : Int) := by omega
        obtain ⟨b, off, rfl, hcs⟩ := (HJ.out.later hbl.out HBL.out).2.2.2.1 (by omega)
        obtain ⟨p, hp⟩ : ∃ p, p = (L.getD k j0).pa := ⟨_, rfl⟩
        have e2 : wr.cell? ⟨b, off + k * 5 + 2, none⟩ = some (.int .i64 (L.getD k j0).pa) := hcs k hkl 2 (by omega)
        rw [← hp] at e2
        have HP := Lib.hid hp
        clear hcs hp
        by_cases hpz : p = 0
        · subst hpz
          have hre : rest = [] := chain_zero hch.out hay.out HP.out.symm
          subst hre
          have HZS : Hid (zs = pre) := by have := hzs.out; rw [List.append_nil] at this; exact this
          go_wp2_with fail
          go_ret
          refine ⟨_, rfl, ?_, hbl.out⟩
          rw [HZS.out]; exact hown.out
        · have hpb : (p == 0) = false := by simpa using hpz
          have hpn : (p != 0) = true := by simpa using hpz
          obtain ⟨ys, hre, hcy⟩ := chain_more hch.out hay.out (by rw [← HP.out]; exact hpz)
          rw [← HP.out] at hre hcy
          subst hre
          obtain ⟨k2, hk2, _, _⟩ := parent_ok HCE.out.symm (atJ_lt hay.out).1 (by rw [← HP.out]; exact hpz)
          rw [← HP.out] at hk2
          have hpl : placeJ L p = (k2 : Int) := by unfold placeJ; rw [hk2]
          have HK2 := Lib.hid (And.intro hk2 hcy)
          have HBZ : Hid (base ≤ wr.heap.size) := by have := hbl.out.size; rw [HB.out]; exact this
          have hal : Below wr.heap.size wr (wr.alloc (Obj.cells #[.int .i64 p] 3)) := (Below.refl _ _).alloc (Nat.le_refl _) _
          have HAL := Lib.hid hal
          have hat2 : ∀ W, Below base w W → Calls Try.prog 32 #[.slice (some ⟨b, off, none⟩) n cap, .int .i64 p] W fun e w' => e = .returned (.int .i64 (k2 : Int)) ∧ Grew W w' := fun W hW => by
            rw [← hpl]; exact atR_any _ n cap L p W (HJ.out.later hW HBL.out)
          have HAT2 := Lib.hid hat2
          have HPL : Hid (pre.length + 1 ≤ 1000000000) := by
            have h1 := HZL.out
            rw [hzs.out, List.length_append] at h1
            exact Lib.hid (by omega)
          have HZL2 : Hid (pre.length + 1 ≤ zs.length) := by rw [hzs.out, List.length_append, List.length_cons]; exact Lib.hid (by omega)
          have e3 : (wr.alloc (Obj.cells #[.int .i64 p] 3)).cell? ⟨b, off + k * 5 + 2, none⟩ = some (.int .i64 p) := (hal.cell (p := ⟨b, off + k * 5 + 2, none⟩) (block_lt_of_cell e2)).trans e2
          have HE3 := Lib.hid e3
          obtain ⟨av, cv, hvv, _⟩ := hown.out.ints
          subst hvv
          clear hk2 hcy hpl hal hat2 e3
          go_wp2_with (at_builtin; refine wpList_append_ints rfl _ _ rfl base _ pre rfl (hown.out.later HAL.out) _ _ _ [p] rfl (one_ints wr p) HPL.out (Nat.le_trans HBZ.out HAL.out.size) ?_
                       intro v5 w5 hown5 hg5
                       have hb5 : Below base w w5 := (hbl.out.trans (HAL.out.mono HBZ.out)).grown hg5 (Nat.le_trans HBZ.out HAL.out.size) (fun k hk => (hown.out.lt k hk).1)
                       have hl5 : w5.cell? ⟨b, off + k * 5 + 2, none⟩ = some (.int .i64 p) := by
                         have hcs5 := (HJ.out.later hb5 HBL.out).2.2.2.1 (by omega)
                         obtain ⟨b', off', e, hcs⟩ := hcs5
                         cases e
                         rw [HP.out]
                         exact hcs k hkl 2 (by omega)
                       have H5 := Lib.hid (And.intro hown5 hb5)
                       clear hown5 hg5 hb5)
          refine (HAT2.out _ H5.out.2).mono ?_
          rintro e w6 ⟨rfl, hg6⟩
          have H6 := Lib.hid (And.intro (H5.out.1.later hg6.1) (H5.out.2.trans (hg6.1.mono (by have := H5.out.2.size; rw [HB.out]; exact this))))
          obtain ⟨a5, c5, hv5, _⟩ := H5.out.1.ints
          have HV5 := Lib.hid hv5
          clear hg6 hv5
          go_wp2_with fail
          go_roundw
          case rel => exact ⟨k2, p, pre ++ [p], ys, rfl, HK2.out.1, HK2.out.2, Lib.hid (by rw [hzs.out]; simp), H6.out.1, H6.out.2⟩
          case measure =>
            have := HZL2.out
            rw [HV5.out]
            simp [sliceLen]
            omega
  · have hcb : (ce == 0) = false := by simpa using hc0
    have hcn : (ce != 0) = true := by simpa using hc0
    have he : zs = [] := hz0 (by rw [← HCE.out]; exact hc0)
    subst he
    clear hz hz0 hc0
    go_enter Try.func22, Try.ntmps22
    go_wp2_with fail
    refine HCK.out.mono ?_
    rintro e w1 ⟨rfl, hg1⟩
    have HG1 := Lib.hid hg1
    clear hg1
    go_wp2_with fail
    refine (HAT.out _ HG1.out).mono ?_
    rintro e w2 ⟨rfl, hg2⟩
    go_wp2_with fail
    go_ret
    refine ⟨_, rfl, OwnI.nil _ _, ?_⟩
    rw [HB.out]; exact (HG1.out.trans hg2).1
end Go.Proofs.Ytbidappkmnedaaa
