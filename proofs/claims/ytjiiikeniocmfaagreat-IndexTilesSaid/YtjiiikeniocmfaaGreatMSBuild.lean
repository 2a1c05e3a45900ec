/- slab.Build (printed by mkbuild.py) -/
import Derived.Test.YtjiiikeniocmfaaGreatMSBuild0
import Derived.Test.YtjiiikeniocmfaaGreatMSEdges
import Derived.Test.YtjiiikeniocmfaaGreatMSlabW
import Derived.Test.YtjiiikeniocmfaaGreatMQRCheck
set_option linter.unusedSimpArgs false
set_option linter.unusedVariables false
namespace Go.Proofs.YtjiiikeniocmfaaGreat
open Go.RowKit Go.Geo
attribute [local go_sem] Oper.semAt_some
def ysOf (R : List (List Pt)) : List Int := R.flatten.map Pt.y
theorem ysOf_take {R : List (List Pt)} {k : Nat} (h : k < R.length) : ysOf (R.take (k + 1)) = ysOf (R.take k) ++ (R.getD k []).map Pt.y := by
  unfold ysOf
  rw [take_more (d := []) h]; simp
theorem ysOf_len (R : List (List Pt)) : (ysOf R).length = sumLen R := by unfold ysOf; rw [List.length_map, sumLen_flatten]
theorem build_heights {R : List (List Pt)} {M : List Int} (hp : M.Perm (ysOf R)) (hs : M.Pairwise (· ≤ ·)) : Lib.compact M = heightsP R := by
  obtain ⟨h1, h2⟩ := compact_spec hs
  exact sorted_same h1 (heights_sorted R) fun z => by rw [h2, heights_mem]; exact hp.mem_iff
set_option maxRecDepth 100000 in
set_option maxHeartbeats 8000000 in
theorem Build_any (ao : Option Addr) (n cap : Nat) (R : List (List Pt)) (w : World) (h : IsRings w ao n cap R) (hs : sumLen R ≤ 1000000000000) :
    Calls Tryz.prog 52 #[.agg #[.slice ao n cap]] w fun e w' => Below w.heap.size w w' ∧ ((regionCheckP R).1 = 0 → ∃ g, e = .returned (.tuple #[.pointer (some ⟨g, 0, none⟩), .agg #[.int .i64 0, .int .i64 0]]) ∧ w.heap.size ≤ g ∧ SlabOwn w' g (heightsP R) (slabsR R)) ∧ ((regionCheckP R).1 ≠ 0 → e = .returned (.tuple #[.pointer none, faultV (regionCheckP R)])) := by
  have HL := Lib.hid h.1
  have hcm := h.2.2.1
  have hnc := h.2.1
  unfold maxLen at hcm
  obtain ⟨W0, hW0⟩ : ∃ W, W = (w.alloc (.cells #[.slice ao n cap] 30)).alloc (.cells #[.int .i64 0, .int .i64 0] 35) := ⟨_, rfl⟩
  have a0 : W0.heap[w.heap.size]? = some (.cells #[.slice ao n cap] 30 (0, 0)) := by rw [hW0]; exact (Below.heap_alloc _ _ _ (by simp)).trans (alloc_new _ _)
  have a1 : W0.heap[w.heap.size + 1]? = some (.cells #[.int .i64 0, .int .i64 0] 35 (0, 0)) := by rw [hW0]; exact alloc_new2 _ _ _
  have hg0 : Below w.heap.size w W0 := by rw [hW0]; exact ((Below.refl _ _).alloc (Nat.le_refl _) _).alloc (by simp) _
  have HI := Lib.hid (h.later hg0 (Nat.le_refl _))
  have H0 := Lib.hid hg0
  have HA0 := Lib.hid a0
  have HA1 := Lib.hid a1
  have c0 : W0.cell? ⟨w.heap.size, 0, none⟩ = some (.slice ao n cap) := cell_of_row _ _ _ _ _ _ a0
  have HCH := Lib.hid (Check_region ao n cap R W0 HI.out hs)
  obtain ⟨fx, hfx⟩ : ∃ f, f = regionCheckP R := ⟨_, rfl⟩
  rw [← hfx] at HCH ⊢
  have HFX := Lib.hid hfx
  obtain ⟨f, fa⟩ := fx
  unfold faultV at HCH
  dsimp only at HCH
  rw [hW0] at c0
  clear h hs a0 a1 hg0 hfx
  by_cases hz : f = 0
  · subst hz
    have hrok : (regionCheckP R).1 = 0 := by rw [← HFX.out]
    have hok := region_ok hrok
    have hsum := hok.2.2.1
    have hn20 := hok.2.1
    rw [HL.out] at hn20
    have HOK := Lib.hid hrok
    have HSUM := Lib.hid hsum
    clear hok hrok hsum
    go_enter Tryz.func52, Tryz.ntmps52
    go_wp2_with fail
    rw [← hW0]
    clear hW0 c0
    refine HCH.out.mono ?_
    rintro e w2 ⟨rfl, hb2⟩
    obtain ⟨W3, hW3⟩ : ∃ W, W = w2.alloc (.cells #[.int .i64 0, .int .i64 fa] 35) := ⟨_, rfl⟩
    have hb3 : Below W0.heap.size W0 W3 := by rw [hW3]; exact hb2.alloc hb2.size _
    obtain ⟨g, hg⟩ : ∃ g, g = W3.heap.size := ⟨_, rfl⟩
    have HG := Lib.hid hg
    have k5 : W3.heap[w2.heap.size]? = some (.cells #[.int .i64 0, .int .i64 fa] 35 (0, 0)) := by rw [hW3]; exact alloc_new _ _
    have hgs : g = w2.heap.size + 1 := by rw [hg, hW3]; simp
    have hgs0 : W0.heap.size < g := by have := hb2.size; omega
    obtain ⟨W4, hW4⟩ : ∃ W, W = W3.alloc (.cells #[.bool true, .slice none 0 0, .slice none 0 0, .slice none 0 0] 134) := ⟨_, rfl⟩
    have hrow : SBr g (.slice none 0 0) (.slice none 0 0) (.slice none 0 0) W4 := by unfold SBr; rw [hW4, hg]; exact alloc_new _ _
    have hown : SBo W3 g (.slice none 0 0) (.slice none 0 0) (.slice none 0 0) [] [] [] W4 := ⟨OwnI.nil _ _, OwnI.nil _ _, OwnE.nil _ _, (fun k hk => by cases hk), by rw [hW4, hg]; exact (Below.refl _ _).alloc (Nat.le_refl _) _, by rw [hW4, hg]; simp⟩
    have HB3 := Lib.hid hb3
    have HBASE := Lib.hid (And.intro hrow hown)
    have HGS := Lib.hid hgs0
    -- what stays of the beginning, in every world behind
    have HRR : Hid (∀ wr, Below g W3 wr → IsRings wr ao n cap R) := Lib.hid (fun wr hb => (HI.out.later hb3 (Nat.le_refl _)).later hb (by rw [hg]; exact Nat.le_refl _))
    have HC0 : Hid (∀ wr, Below g W3 wr → wr.cell? ⟨w.heap.size, 0, none⟩ = some (.slice ao n cap)) := Lib.hid (fun wr hb => cell_of_row _ _ _ _ _ _ ((hb.block _ (by have := heap_lt' HA0.out; omega)).trans ((hb3.block _ (heap_lt' HA0.out)).trans HA0.out)))
    have HF1 : Hid (∀ wr, Below g W3 wr → wr.heap[w.heap.size + 1]? = some (.cells #[.int .i64 0, .int .i64 0] 35 (0, 0))) := Lib.hid (fun wr hb => (hb.block _ (by have := heap_lt' HA1.out; omega)).trans ((hb3.block _ (heap_lt' HA1.out)).trans HA1.out))
    have cR : W4.cell? ⟨w.heap.size, 0, none⟩ = some (.slice ao n cap) := HC0.out W4 hown.below
    have hge : g = w2.heap.size + 1 := hgs
    clear hb2 hb3 k5 hrow hown hgs0
    rw [hW4, hW3] at cR
    go_wp2_with fail
    rw [← hW3, ← hW4, ← hge]
    clear cR hW3 hW4 hge hgs hg
    go_loopw [26] (fun i wr => ∃ k : Nat, k ≤ n ∧ i = .int .i64 k ∧ ∃ hv, Hid (SBr g hv (.slice none 0 0) (.slice none 0 0) wr ∧ SBo W3 g hv (.slice none 0 0) (.slice none 0 0) (ysOf (R.take k)) [] [] wr)) (fun i _ => n - (intOf i).toNat)
    case atStart => exact ⟨0, by omega, rfl, _, HBASE⟩
    case round =>
      obtain ⟨k, hk, rfl, hv, hst⟩ := hrel
      by_cases hlt : k < n
      · have hi0 : (0 : Int) ≤ (k : Int) := by omega
        have hi5 : (k : Int) < (n : Int) := by omega
        obtain ⟨b, off, x, y, z, rfl, e0, _⟩ := (HRR.out wr hst.out.2.below).2.2.2.2 k hlt
        have HP : Hid (∀ wr, Below g W3 wr → IsPts wr x y z (R.getD k [])) := Lib.hid (fun wr2 hb => by
          obtain ⟨b', off', x', y', z', he, e0', hp⟩ := (HRR.out W3 (Below.refl _ _)).2.2.2.2 k hlt
          cases he
          have h1 := (hst.out.2.below.cell (p := ⟨b, off + k, none⟩) (Nat.lt_of_lt_of_le (block_lt_of_cell e0') (by rw [HG.out]; exact Nat.le_refl _))).trans e0'
          rw [e0] at h1
          cases h1
          exact hp.later hb (by rw [HG.out]; exact Nat.le_refl _))
        have HY : Hid ((R.getD k []).length = y) := Lib.hid (HP.out wr hst.out.2.below).1
        have hyc := (HP.out wr hst.out.2.below).2.1
        have hzm := (HP.out wr hst.out.2.below).2.2.1
        unfold maxLen at hzm
        have HT : Hid (ysOf (R.take (k + 1)) = ysOf (R.take k) ++ (R.getD k []).map Pt.y) := Lib.hid (ysOf_take (by rw [HL.out]; exact hlt))
        have HLY : Hid ((ysOf (R.take k)).length + y ≤ 400) := Lib.hid (by
          have h2 := sumLen_take (g := R) (k := k) (by rw [HL.out]; exact hlt)
          have h3 := sumLen_take_le R (k + 1)
          have h4 := HSUM.out
          have h5 := HY.out
          rw [ysOf_len]; omega)
        obtain ⟨l, hl⟩ : ∃ l, l = R.getD k [] := ⟨_, rfl⟩
        rw [← hl] at HP HY HT
        obtain ⟨H1, hH1⟩ : ∃ H, H = ysOf (R.take k) := ⟨_, rfl⟩
        rw [← hH1] at hst HT HLY
        clear hl hH1
        go_wp2_with fail
        go_loopw [32] (fun i wr => ∃ j : Nat, j ≤ y ∧ i = .int .i64 j ∧ ∃ hv, Hid (SBr g hv (.slice none 0 0) (.slice none 0 0) wr ∧ SBo W3 g hv (.slice none 0 0) (.slice none 0 0) (H1 ++ (l.take j).map Pt.y) [] [] wr)) (fun i _ => y - (intOf i).toNat)
        case atStart => exact ⟨0, by omega, rfl, hv, Lib.hid (by rw [show (l.take 0).map Pt.y = [] from rfl, List.append_nil]; exact hst.out)⟩
        case round =>
          clear e0
          obtain ⟨j, hj, rfl, hv, hst2⟩ := hrel
          by_cases hlt2 : j < y
          · have hj0 : (0 : Int) ≤ (j : Int) := by omega
            have hj5 : (j : Int) < (y : Int) := by omega
            obtain ⟨bp2, op2, hxe, e1, e2⟩ := (HP.out wr hst2.out.2.below).at hlt2
            subst hxe
            obtain ⟨x, hx⟩ : ∃ x, x = l.getD j p0 := ⟨_, rfl⟩
            rw [← hx] at e1 e2
            have HHT : Hid (H1 ++ (l.take (j + 1)).map Pt.y = (H1 ++ (l.take j).map Pt.y) ++ [x.y]) := Lib.hid (by
              rw [take_more (d := p0) (by rw [HY.out]; exact hlt2), ← hx]; simp)
            have HLEN : Hid ((H1 ++ (l.take j).map Pt.y).length + 1 ≤ 1000000000) := Lib.hid (by
              have := HLY.out
              rw [List.length_append, List.length_map, List.length_take]; omega)
            obtain ⟨H, hH⟩ : ∃ H, H = H1 ++ (l.take j).map Pt.y := ⟨_, rfl⟩
            rw [← hH] at hst2 HHT HLEN
            obtain ⟨ah, ch, hvv, _⟩ := hst2.out.2.h.ints
            obtain ⟨nh, hnh⟩ : ∃ n, n = H.length := ⟨_, rfl⟩
            rw [← hnh] at hvv
            have HVV := Lib.hid hvv
            obtain ⟨W9, hW9⟩ : ∃ W, W = wr.alloc (.cells #[.int .i64 x.x, .int .i64 x.y] 24) := ⟨_, rfl⟩
            obtain ⟨bp, hbp⟩ : ∃ b, b = wr.heap.size := ⟨_, rfl⟩
            have HSB9 : Hid (SBr g hv (.slice none 0 0) (.slice none 0 0) W9 ∧ SBo W3 g hv (.slice none 0 0) (.slice none 0 0) H [] [] W9 ∧ W9.cell? ⟨bp, 1, none⟩ = some (.int .i64 x.y)) := Lib.hid (by
              have hb : Below wr.heap.size wr W9 := by rw [hW9]; exact (Below.refl _ _).alloc (Nat.le_refl _) _
              refine ⟨hst2.out.1.later hb, hst2.out.2.later hb, ?_⟩
              rw [hW9, hbp]
              exact cell_of_row _ _ _ _ _ _ (alloc_new wr _))
            clear hx hH hnh hvv hst2
            go_wp2_with fail
            rw [← hW9, ← hbp]
            clear hW9 hbp e1 e2
            refine wp_region_J (s := [(36, 0), (37, 1), (38, 2), (39, 3), (40, 4), (41, 5), (42, 6), (43, 7), (44, 8), (45, 9), (46, 10)]) (by kernel_rfl) (ChainJ (fun iX => match iX with | 0 => some (.pointer (some ⟨g, 0, none⟩)) | 1 => some (.pointer (some ⟨g, 0, none⟩)) | 2 => some (.pointer (some ⟨g, 0, none⟩)) | 3 => some (.pointer (some ⟨g, 1, none⟩)) | 4 => some (.slice ah nh ch) | 5 => some (.pointer (some ⟨bp, 1, none⟩)) | 6 => some (.int .i64 (x.y)) | 9 => some (.pointer (some ⟨g, 0, none⟩)) | 10 => some (.pointer (some ⟨g, 1, none⟩)) | _ => none) [7, 8, 11] (StH W3 g hv (.slice none 0 0) (.slice none 0 0) H [] [] x.y (fun w => w.cell? ⟨bp, 1, none⟩ = some (.int .i64 x.y)))) (by kernel_rfl) (by kernel_rfl) (by kernel_rfl) (by kernel_rfl) (fun _ => undef) ?start11 ?step11 ?done11
            case start11 => exact ChainJ.start (⟨HSB9.out.1.later ((Below.refl _ _).drew), HSB9.out.2.1.later ((Below.refl _ _).drew), HSB9.out.2.2⟩)
            case step11 =>
              refine ⟨?o11_0, ?o11_1, ?o11_2, ?o11_3, ?o11_4, ?o11_5, ?o11_6, ?o11_7, ?o11_8, ?o11_9, ?o11_10, ?o11_11, trivial⟩
              case o11_0 =>
                intro LX V aX wX K hl hp hcl hf hJ hK
                have t5 : aX.tmps[5]? = some (.pointer (some ⟨g, 0, none⟩)) := hf.old (by kernel_rfl) rfl
                rw [if_pos (by rfl)]
                go_simp
                exact hK _ _ (hJ.val 0 _ (by kernel_rfl) rfl (fun _ h => h))
              case o11_1 =>
                intro LX V aX wX K hl hp hcl hf hJ hK
                have t5 : aX.tmps[5]? = some (.pointer (some ⟨g, 0, none⟩)) := hf.old (by kernel_rfl) rfl
                rw [if_pos (by rfl)]
                go_simp
                exact hK _ _ (hJ.val 1 _ (by kernel_rfl) rfl (fun _ h => h))
              case o11_2 =>
                intro LX V aX wX K hl hp hcl hf hJ hK
                have t37 := hf.in (i := 1) (d := 37) (by kernel_rfl) (hp 1 (by kernel_rfl)) (hJ.vals 1 _ rfl (hp 1 (by kernel_rfl)))
                rw [if_pos (by rfl)]
                go_simp
                exact hK _ _ (hJ.val 2 _ (by kernel_rfl) rfl (fun _ h => h))
              case o11_3 =>
                intro LX V aX wX K hl hp hcl hf hJ hK
                have t38 := hf.in (i := 2) (d := 38) (by kernel_rfl) (hp 2 (by kernel_rfl)) (hJ.vals 2 _ rfl (hp 2 (by kernel_rfl)))
                rw [if_pos (by rfl)]
                go_simp
                exact hK _ _ (hJ.val 3 _ (by kernel_rfl) rfl (fun _ h => h))
              case o11_4 =>
                intro LX V aX wX K hl hp hcl hf hJ hK
                have t39 := hf.in (i := 3) (d := 39) (by kernel_rfl) (hp 3 (by kernel_rfl)) (hJ.vals 3 _ rfl (hp 3 (by kernel_rfl)))
                obtain ⟨vs, hlen, hS⟩ := hJ.upto 1 (by decide) (hcl.no 8 (by kernel_rfl) hl)
                have c1 : wX.cell? ⟨g, 1, none⟩ = some hv := by
                  match vs, hlen, hS with
                  | [], _, hS => exact hS.1.cell.2.1
                  | [_], _, hS => exact hS.1.cell.2.1
                  | _ :: _ :: _, h, _ => exact absurd h (by simp)
                rw [HVV.out] at c1
                rw [if_pos (by rfl)]
                go_simp
                exact hK _ _ (hJ.val 4 _ (by kernel_rfl) rfl (fun _ h => h))
              case o11_5 =>
                intro LX V aX wX K hl hp hcl hf hJ hK
                have t9 : aX.tmps[9]? = some (.pointer (some ⟨bp, 0, none⟩)) := hf.old (by kernel_rfl) rfl
                rw [if_pos (by rfl)]
                go_simp
                exact hK _ _ (hJ.val 5 _ (by kernel_rfl) rfl (fun _ h => h))
              case o11_6 =>
                intro LX V aX wX K hl hp hcl hf hJ hK
                have t41 := hf.in (i := 5) (d := 41) (by kernel_rfl) (hp 5 (by kernel_rfl)) (hJ.vals 5 _ rfl (hp 5 (by kernel_rfl)))
                obtain ⟨vs, hlen, hS⟩ := hJ.upto 0 (by decide) (hcl.no 7 (by kernel_rfl) hl)
                have c1 : wX.cell? ⟨bp, 1, none⟩ = some (.int .i64 x.y) := by
                  match vs, hlen, hS with
                  | [], _, hS => exact hS.2.2
                  | _ :: _, h, _ => exact absurd h (by simp)
                rw [if_pos (by rfl)]
                go_simp
                exact hK _ _ (hJ.val 6 _ (by kernel_rfl) rfl (fun _ h => h))
              case o11_7 =>
                intro LX V aX wX K hl hp hcl hf hJ hK
                have t42 := hf.in (i := 6) (d := 42) (by kernel_rfl) (hp 6 (by kernel_rfl)) (hJ.vals 6 _ rfl (hp 6 (by kernel_rfl)))
                rw [if_pos (by rfl)]
                obtain ⟨vs, hlen, hvs, hS, hn⟩ := hJ.next (by kernel_rfl) 0 (by kernel_rfl) hl (.inl rfl) rfl
                match vs, hlen, hvs, hS, hn with
                | [], _, hvs, hS, hn =>
                  go_simp
                  exact hK _ _ (hn _ _ ⟨hS.1.later ((Below.refl _ _).alloc (Nat.le_refl _) _), hS.2.1.later ((Below.refl _ _).alloc (Nat.le_refl _) _), ⟨_, rfl, one_ints _ _⟩⟩)
              case o11_8 =>
                intro LX V aX wX K hl hp hcl hf hJ hK
                have t40 := hf.in (i := 4) (d := 40) (by kernel_rfl) (hp 4 (by kernel_rfl)) (hJ.vals 4 _ rfl (hp 4 (by kernel_rfl)))
                have t43 := hf.in (i := 7) (d := 43) (by kernel_rfl) (hp 7 (by kernel_rfl)) rfl
                rw [if_pos (by rfl)]
                obtain ⟨vs, hlen, hvs, hS, hn⟩ := hJ.next (by kernel_rfl) 1 (by kernel_rfl) hl (.inr (hp 7 (by kernel_rfl))) rfl
                match vs, hlen, hvs, hS, hn with
                | [a0], _, hvs, hS, hn =>
                  have e0 : V 7 = a0 := hvs 0 (by decide)
                  obtain ⟨h1, h2, k, hk, hi⟩ := hS
                  rw [e0, hk] at t43
                  rw [← HVV.out] at t40
                  refine opwp_append_intsF _ _ rfl (g + 1) hv H (eval_tmp t40) h2.h _ _ _ [x.y] (eval_tmp t43) hi HLEN.out (Nat.le_trans h2.lt (Nat.le_refl _)) ?_
                  intro v' w' ho hg hf
                  exact hK _ _ (hn _ _ ⟨h1.grown hg (fun k hk => (own_lt h2.h hk).1), h2.growH ho hg hf⟩)
              case o11_9 =>
                intro LX V aX wX K hl hp hcl hf hJ hK
                have t36 := hf.in (i := 0) (d := 36) (by kernel_rfl) (hp 0 (by kernel_rfl)) (hJ.vals 0 _ rfl (hp 0 (by kernel_rfl)))
                rw [if_pos (by rfl)]
                go_simp
                exact hK _ _ (hJ.val 9 _ (by kernel_rfl) rfl (fun _ h => h))
              case o11_10 =>
                intro LX V aX wX K hl hp hcl hf hJ hK
                have t45 := hf.in (i := 9) (d := 45) (by kernel_rfl) (hp 9 (by kernel_rfl)) (hJ.vals 9 _ rfl (hp 9 (by kernel_rfl)))
                rw [if_pos (by rfl)]
                go_simp
                exact hK _ _ (hJ.val 10 _ (by kernel_rfl) rfl (fun _ h => h))
              case o11_11 =>
                intro LX V aX wX K hl hp hcl hf hJ hK
                have t46 := hf.in (i := 10) (d := 46) (by kernel_rfl) (hp 10 (by kernel_rfl)) (hJ.vals 10 _ rfl (hp 10 (by kernel_rfl)))
                have t44 := hf.in (i := 8) (d := 44) (by kernel_rfl) (hp 8 (by kernel_rfl)) rfl
                rw [if_pos (by rfl)]
                obtain ⟨vs, hlen, hvs, hS, hn⟩ := hJ.next (by kernel_rfl) 2 (by kernel_rfl) hl (.inr (hp 8 (by kernel_rfl))) rfl
                match vs, hlen, hvs, hS, hn with
                | [a0, a1], _, hvs, hS, hn =>
                  have e0 : V 7 = a0 := hvs 0 (by decide)
                  have e1 : V 8 = a1 := hvs 1 (by decide)
                  obtain ⟨h1, h2⟩ := hS
                  have f1 := h1.frozen 1
                  have c1 := h1.cell.2.1
                  obtain ⟨aN, cN, hvN, _⟩ := h2.h.ints
                  have hvN2 := hvN
                  generalize (H ++ [x.y]).length = M at hvN
                  rw [e1, hvN] at t44
                  go_simp
                  refine hK undef _ (hn undef _ ⟨?_, h2.set⟩)
                  rw [hvN]
                  exact h1.setH
            intro V wZ hJ
            obtain ⟨vs, hlen, hvs, hS⟩ := hJ.all (by kernel_rfl)
            match vs, hlen, hvs, hS with
            | [a0, a1, a2], _, hvs, hS =>
              have e0 : V 7 = a0 := hvs 0 (by decide)
              have e1 : V 8 = a1 := hvs 1 (by decide)
              have e2 : V 11 = a2 := hvs 2 (by decide)
              have HZ := Lib.hid hS
              simp only [puts, Act.put, List.setIfInBounds_toArray, List.set_cons_zero, List.set_cons_succ]
              clear hJ hvs hS
              go_wp2_with fail
              go_roundw
              case rel => exact ⟨j + 1, by omega, by go_num, a1, Lib.hid (by rw [HHT.out]; exact HZ.out)⟩
              case measure => simp [intOf]; omega
          · have hjy : y = j := by omega
            subst hjy
            have hj5 : ¬ (y : Int) < (y : Int) := by omega
            have HF : Hid (ysOf (R.take (k + 1)) = H1 ++ (l.take y).map Pt.y) := Lib.hid (by rw [HT.out, List.take_of_length_le (by rw [HY.out]; exact Nat.le_refl _)])
            go_wp2_with fail
            go_roundw
            case rel => exact ⟨k + 1, by omega, by go_num, hv, Lib.hid (by rw [HF.out]; exact hst2.out)⟩
            case measure => simp [intOf]; omega
      · have hkn : n = k := by omega
        subst hkn
        have hi5 : ¬ (n : Int) < (n : Int) := by omega
        rw [List.take_of_length_le (by rw [HL.out]; exact Nat.le_refl _)] at hst
        have HYL : Hid ((ysOf R).length ≤ 400) := Lib.hid (by rw [ysOf_len]; exact HSUM.out)
        obtain ⟨Y, hY⟩ : ∃ Y, Y = ysOf R := ⟨_, rfl⟩
        rw [← hY] at hst HYL
        have HYY := Lib.hid hY
        obtain ⟨ah, ch, hvv, _⟩ := hst.out.2.h.ints
        obtain ⟨ny, hny⟩ : ∃ n, n = Y.length := ⟨_, rfl⟩
        rw [← hny] at hvv
        subst hvv
        have c1 := hst.out.1.cell.2.1
        have HSO := Lib.hid (Sort_ints (g + 1) _ Y wr hst.out.2.h (by have := HYL.out; omega))
        have HST := hst
        clear hY hny hst
        go_wp2_with fail
        refine HSO.out.mono ?_
        rintro e w5 ⟨rfl, M, hoM, hpM, hsM, hgM⟩
        have HS5 : Hid (SBr g (.slice ah ny ch) (.slice none 0 0) (.slice none 0 0) w5 ∧ SBo W3 g (.slice ah ny ch) (.slice none 0 0) (.slice none 0 0) M [] [] w5) := Lib.hid ⟨HST.out.1.grown hgM (fun k hk => (own_lt HST.out.2.h hk).1), HST.out.2.growH hoM hgM (fun k hk => .inr hk)⟩
        have HM := Lib.hid (And.intro hpM hsM)
        have HML : Hid (M.length ≤ 400) := Lib.hid (by rw [hpM.length_eq]; exact HYL.out)
        have hCO := Compact_ints (g + 1) _ M w5 HS5.out.2.h (by have := HML.out; omega)
        have hKH : Lib.compact M = heightsP R := build_heights (by rw [← HYY.out]; exact hpM) hsM
        rw [hKH] at hCO
        have HCO := Lib.hid hCO
        clear c1 hoM hpM hsM hgM hCO hKH
        have c1 := HS5.out.1.cell.2.1
        go_wp2_with fail
        refine HCO.out.mono ?_
        rintro e w6 ⟨v6, rfl, ho6, hg6, hf6⟩
        have hr6 := HS5.out.1.grown hg6 (fun k hk => (own_lt HS5.out.2.h hk).1)
        have HS6 : Hid (SBr g (.slice ah ny ch) (.slice none 0 0) (.slice none 0 0) w6 ∧ SBo W3 g v6 (.slice none 0 0) (.slice none 0 0) (heightsP R) [] [] w6) := Lib.hid ⟨hr6, HS5.out.2.growH ho6 hg6 (fun k hk => .inr (hf6 ▸ hk))⟩
        have h2H := heights_two HOK.out
        have hHL : (heightsP R).length ≤ 400 := by
          rw [← build_heights (R := R) (by rw [← HYY.out]; exact HM.out.1) HM.out.2]
          refine Nat.le_trans ?_ HML.out
          unfold Lib.compact Lib.compactUpTo
          rw [List.length_map]
          exact Nat.le_trans (List.length_filter_le _ _) (by simp)
        obtain ⟨m, hm⟩ : ∃ m, (heightsP R).length = m + 1 := ⟨(heightsP R).length - 1, by omega⟩
        obtain ⟨ah6, ch6, hv6, hi6⟩ := ho6.ints
        rw [hm] at hv6 hi6
        obtain ⟨bh, oh, hah6, _⟩ := hi6.at (i := 0) (by omega)
        subst hah6
        subst hv6
        have HMM := Lib.hid hm
        have hm1 : 1 ≤ m := by omega
        have hm4 : m ≤ 400 := by omega
        have HI6 := Lib.hid hi6
        have f1 := hr6.frozen 1
        have c1b := hr6.cell.2.1
        clear c1 ho6 hg6 hf6 hr6 hm h2H hHL hi6
        obtain ⟨W7, hW7⟩ : ∃ W, W = w6.setCell ⟨g, 1, none⟩ (.slice (some ⟨bh, oh, none⟩) (m + 1) ch6) := ⟨_, rfl⟩
        have HS7 : Hid (SBr g (.slice (some ⟨bh, oh, none⟩) (m + 1) ch6) (.slice none 0 0) (.slice none 0 0) W7 ∧ SBo W3 g (.slice (some ⟨bh, oh, none⟩) (m + 1) ch6) (.slice none 0 0) (.slice none 0 0) (heightsP R) [] [] W7) := Lib.hid (by rw [hW7]; exact ⟨HS6.out.1.setH, HS6.out.2.set⟩)
        have cR := HC0.out W7 HS7.out.2.below
        have HED := Lib.hid (Edges_any ao n cap R W7 (HRR.out W7 HS7.out.2.below) (by have := HSUM.out; omega) (by omega))
        rw [hW7] at cR
        go_wp2_with fail
        rw [← hW7]
        clear hW7 cR f1 c1b
        refine HED.out.mono ?_
        rintro e WE ⟨v8, rfl, ho8, hb8⟩
        obtain ⟨hv2, hhv2⟩ : ∃ v, v = Value.slice (some ⟨bh, oh, none⟩) (m + 1) ch6 := ⟨_, rfl⟩
        rw [← hhv2] at HS7
        have HHV2 := Lib.hid hhv2
        have hr8 := HS7.out.1.later hb8
        have hs8 := HS7.out.2.later hb8
        have hE2 : SB2 W3 WE g (.slice none 0 0) (.slice none 0 0) [] [] WE := ⟨OwnI.nil _ _, OwnE.nil _ _, fun _ _ _ => rfl, hs8.below, Nat.le_refl _, hs8.lt⟩
        have HE2 := Lib.hid (And.intro hr8 hE2)
        have HH8 := Lib.hid hs8.h
        have hbh : g < bh ∧ bh < WE.heap.size := by
          have := own_lt hs8.h (k := bh) (by rw [hhv2]; rfl)
          omega
        have hHI : IsInts WE (some ⟨bh, oh, none⟩) (m + 1) ch6 (heightsP R) := by
          obtain ⟨a9, c9, e9, i9⟩ := hs8.h.ints
          rw [HMM.out] at e9 i9
          rw [hhv2] at e9
          cases e9
          exact i9
        have HHC : Hid (∀ wr : World, (∀ k, k < WE.heap.size → k ≠ g → wr.heap[k]? = WE.heap[k]?) → ∀ i, i < m + 1 → wr.cell? ⟨bh, oh + i, none⟩ = some (.int .i64 ((heightsP R).getD i 0))) := Lib.hid (fun wr hk i hi => by
          obtain ⟨b', o', e', hc⟩ := hHI.at hi
          cases e'
          have hq : wr.cell? ⟨bh, oh + i, none⟩ = WE.cell? ⟨bh, oh + i, none⟩ := World.cell?_of_block (w := WE) (hk bh hbh.2 (by omega))
          exact hq.trans hc)
        obtain ⟨ad, ce, hv8, hi8⟩ := ho8.edgs
        obtain ⟨ne, hne⟩ : ∃ n, n = (edgesP R).length := ⟨_, rfl⟩
        rw [← hne] at hv8 hi8
        have hnel : ne ≤ 400 := by rw [hne]; exact Nat.le_trans (edgesP_len R) HSUM.out
        have hnec := hi8.2.1
        have hcem := hi8.2.2.1
        unfold maxLen at hcem
        have HNE := Lib.hid hne
        have HAD : Hid (∀ wr : World, (∀ k, k < WE.heap.size → k ≠ g → wr.heap[k]? = WE.heap[k]?) → ∀ i, i < ne → ∃ be oe, ad = some ⟨be, oe, none⟩ ∧ wr.cell? ⟨be, oe + i * 4, none⟩ = some (.int .i64 ((edgesP R).getD i ed0).1.x) ∧ wr.cell? ⟨be, oe + i * 4 + 1, none⟩ = some (.int .i64 ((edgesP R).getD i ed0).1.y) ∧ wr.cell? ⟨be, oe + i * 4 + 2, none⟩ = some (.int .i64 ((edgesP R).getD i ed0).2.x) ∧ wr.cell? ⟨be, oe + i * 4 + 3, none⟩ = some (.int .i64 ((edgesP R).getD i ed0).2.y)) := Lib.hid (fun wr hk i hi => by
          obtain ⟨be, oe, e', d0, d1, d2, d3⟩ := hi8.at hi
          have hbe := own_lt ho8 (k := be) (by rw [hv8, e']; rfl)
          have hlt7 := HS7.out.2.lt
          have hq : ∀ o, wr.cell? ⟨be, o, none⟩ = WE.cell? ⟨be, o, none⟩ := fun o => World.cell?_of_block (w := WE) (hk be hbe.2 (by omega))
          exact ⟨be, oe, e', (hq _).trans d0, (hq _).trans d1, (hq _).trans d2, (hq _).trans d3⟩)
        subst hv8
        have HCE : Hid (∀ wX, Below WE.heap.size WE wX → wX.cell? ⟨g, 1, none⟩ = some (.slice (some ⟨bh, oh, none⟩) (m + 1) ch6)) := Lib.hid (fun wX hX => by rw [← HHV2.out]; exact (HE2.out.1.later hX).cell.2.1)
        have hchm := hHI.2.1
        have hchm2 := hHI.2.2.1
        unfold maxLen at hchm2
        have hmi : ((m + 1 : Nat) : Int) - 1 = (m : Int) := by omega
        have hmi2 : (m : Int) + 1 - 1 = (m : Int) := by omega
        have hm0 : (0 : Int) ≤ (m : Int) := by omega
        have hmc : (m : Int) ≤ (ch6 : Int) := by omega
        have hmc2 : m ≤ ch6 := by omega
        have hmm1 : (m : Int) ≤ (m : Int) + 1 := by omega
        have hwm : IntKind.i64.wrap (m : Int) = (m : Int) := IntWalk.i64_in _ (by omega)
        clear ho8 hb8 hhv2 hr8 hs8 hE2 hHI hne hi8 hbh
        go_wp2_with fail
        refine wp_region_J (s := [(64, 0), (65, 1), (66, 2), (67, 3), (68, 4), (69, 5), (70, 6), (71, 7), (72, 8), (73, 9), (74, 10), (75, 11), (76, 12)]) (by kernel_rfl) (StdJ WE (fun iX => match iX with | 0 => some (.pointer (some ⟨g, 0, none⟩)) | 1 => some (.pointer (some ⟨g, 0, none⟩)) | 2 => some (.pointer (some ⟨g, 1, none⟩)) | 3 => some (.slice (some ⟨bh, oh, none⟩) (m + 1) ch6) | 4 => some (.pointer (some ⟨g, 0, none⟩)) | 5 => some (.pointer (some ⟨g, 0, none⟩)) | 6 => some (.pointer (some ⟨g, 1, none⟩)) | 7 => some (.slice (some ⟨bh, oh, none⟩) (m + 1) ch6) | 8 => some (.int .i64 ((m : Int) + 1)) | 9 => some (.int .i64 (m : Int)) | 10 => some (.slice (some ⟨bh, oh, none⟩) m ch6) | 11 => some (.int .i64 (m : Int)) | 12 => some (.int .i64 0) | _ => none) []) (by kernel_rfl) (by kernel_rfl) (by kernel_rfl) (by kernel_rfl) (fun _ => undef) ?start17 ?step17 ?done17
        case start17 => exact StdJ.start ((Below.refl _ _).drew)
        case step17 =>
          refine ⟨?o17_0, ?o17_1, ?o17_2, ?o17_3, ?o17_4, ?o17_5, ?o17_6, ?o17_7, ?o17_8, ?o17_9, ?o17_10, ?o17_11, ?o17_12, trivial⟩
          case o17_0 =>
            intro LX V aX wX K hl hp hcl hf hJ hK
            have t5 : aX.tmps[5]? = some (.pointer (some ⟨g, 0, none⟩)) := hf.old (by kernel_rfl) rfl
            rw [if_pos (by rfl)]
            go_simp
            exact hK _ _ (hJ.val (Below.refl _ _) 0 _ (by kernel_rfl) rfl)
          case o17_1 =>
            intro LX V aX wX K hl hp hcl hf hJ hK
            have t64 := hf.in (i := 0) (d := 64) (by kernel_rfl) (hp 0 (by kernel_rfl)) (hJ.vals 0 _ rfl (hp 0 (by kernel_rfl)))
            rw [if_pos (by rfl)]
            go_simp
            exact hK _ _ (hJ.val (Below.refl _ _) 1 _ (by kernel_rfl) rfl)
          case o17_2 =>
            intro LX V aX wX K hl hp hcl hf hJ hK
            have t65 := hf.in (i := 1) (d := 65) (by kernel_rfl) (hp 1 (by kernel_rfl)) (hJ.vals 1 _ rfl (hp 1 (by kernel_rfl)))
            rw [if_pos (by rfl)]
            go_simp
            exact hK _ _ (hJ.val (Below.refl _ _) 2 _ (by kernel_rfl) rfl)
          case o17_3 =>
            intro LX V aX wX K hl hp hcl hf hJ hK
            have t66 := hf.in (i := 2) (d := 66) (by kernel_rfl) (hp 2 (by kernel_rfl)) (hJ.vals 2 _ rfl (hp 2 (by kernel_rfl)))
            have c1 := HCE.out wX hJ.below
            rw [if_pos (by rfl)]
            go_simp
            exact hK _ _ (hJ.val (Below.refl _ _) 3 _ (by kernel_rfl) rfl)
          case o17_4 =>
            intro LX V aX wX K hl hp hcl hf hJ hK
            have t5 : aX.tmps[5]? = some (.pointer (some ⟨g, 0, none⟩)) := hf.old (by kernel_rfl) rfl
            rw [if_pos (by rfl)]
            go_simp
            exact hK _ _ (hJ.val (Below.refl _ _) 4 _ (by kernel_rfl) rfl)
          case o17_5 =>
            intro LX V aX wX K hl hp hcl hf hJ hK
            have t68 := hf.in (i := 4) (d := 68) (by kernel_rfl) (hp 4 (by kernel_rfl)) (hJ.vals 4 _ rfl (hp 4 (by kernel_rfl)))
            rw [if_pos (by rfl)]
            go_simp
            exact hK _ _ (hJ.val (Below.refl _ _) 5 _ (by kernel_rfl) rfl)
          case o17_6 =>
            intro LX V aX wX K hl hp hcl hf hJ hK
            have t69 := hf.in (i := 5) (d := 69) (by kernel_rfl) (hp 5 (by kernel_rfl)) (hJ.vals 5 _ rfl (hp 5 (by kernel_rfl)))
            rw [if_pos (by rfl)]
            go_simp
            exact hK _ _ (hJ.val (Below.refl _ _) 6 _ (by kernel_rfl) rfl)
          case o17_7 =>
            intro LX V aX wX K hl hp hcl hf hJ hK
            have t70 := hf.in (i := 6) (d := 70) (by kernel_rfl) (hp 6 (by kernel_rfl)) (hJ.vals 6 _ rfl (hp 6 (by kernel_rfl)))
            have c1 := HCE.out wX hJ.below
            rw [if_pos (by rfl)]
            go_simp
            exact hK _ _ (hJ.val (Below.refl _ _) 7 _ (by kernel_rfl) rfl)
          case o17_8 =>
            intro LX V aX wX K hl hp hcl hf hJ hK
            have t71 := hf.in (i := 7) (d := 71) (by kernel_rfl) (hp 7 (by kernel_rfl)) (hJ.vals 7 _ rfl (hp 7 (by kernel_rfl)))
            rw [if_pos (by rfl)]
            go_simp
            exact hK _ _ (hJ.val (Below.refl _ _) 8 _ (by kernel_rfl) rfl)
          case o17_9 =>
            intro LX V aX wX K hl hp hcl hf hJ hK
            have t72 := hf.in (i := 8) (d := 72) (by kernel_rfl) (hp 8 (by kernel_rfl)) (hJ.vals 8 _ rfl (hp 8 (by kernel_rfl)))
            rw [if_pos (by rfl)]
            go_simp
            exact hK _ _ (hJ.val (Below.refl _ _) 9 _ (by kernel_rfl) rfl)
          case o17_10 =>
            intro LX V aX wX K hl hp hcl hf hJ hK
            have t67 := hf.in (i := 3) (d := 67) (by kernel_rfl) (hp 3 (by kernel_rfl)) (hJ.vals 3 _ rfl (hp 3 (by kernel_rfl)))
            have t73 := hf.in (i := 9) (d := 73) (by kernel_rfl) (hp 9 (by kernel_rfl)) (hJ.vals 9 _ rfl (hp 9 (by kernel_rfl)))
            rw [if_pos (by rfl)]
            go_simp
            exact hK _ _ (hJ.val (Below.refl _ _) 10 _ (by kernel_rfl) rfl)
          case o17_11 =>
            intro LX V aX wX K hl hp hcl hf hJ hK
            have t74 := hf.in (i := 10) (d := 74) (by kernel_rfl) (hp 10 (by kernel_rfl)) (hJ.vals 10 _ rfl (hp 10 (by kernel_rfl)))
            rw [if_pos (by rfl)]
            go_simp
            exact hK _ _ (hJ.val (Below.refl _ _) 11 _ (by kernel_rfl) rfl)
          case o17_12 =>
            intro LX V aX wX K hl hp hcl hf hJ hK
            rw [if_pos (by rfl)]
            go_simp
            exact hK _ _ (hJ.val (Below.refl _ _) 12 _ (by kernel_rfl) rfl)
        intro V wZ hJ
        have hv74 := hJ.vals 10 _ rfl (by kernel_rfl)
        have hv75 := hJ.vals 11 _ rfl (by kernel_rfl)
        have hv76 := hJ.vals 12 _ rfl (by kernel_rfl)
        have HBZ := Lib.hid hJ.below
        simp only [puts, Act.put, List.setIfInBounds_toArray, List.set_cons_zero, List.set_cons_succ]
        rw [hv74, hv75, hv76]
        clear hJ hv74 hv75 hv76
        have HSTART : Hid (SBr g hv2 (.slice none 0 0) (.slice none 0 0) wZ ∧ SB2 W3 WE g (.slice none 0 0) (.slice none 0 0) [] [] wZ) := Lib.hid ⟨HE2.out.1.later HBZ.out, HE2.out.2.later HBZ.out⟩
        go_wp2_with fail
        go_loopw [76] (fun i wr => ∃ k : Nat, k ≤ m ∧ i = .int .i64 k ∧ ∃ ov ev, Hid (SBr g hv2 ov ev wr ∧ SB2 W3 WE g ov ev (offK R k) (slabsK R k).flatten wr)) (fun i _ => m - (intOf i).toNat)
        case atStart => exact ⟨0, by omega, rfl, _, _, Lib.hid HSTART.out⟩
        case round =>
          obtain ⟨k, hk, rfl, ov, ev, HSB⟩ := hrel
          have HFB : Hid ((slabsK R k).flatten.length ≤ 160000) := Lib.hid (by
            refine Nat.le_trans (slabsK_bound R k) ?_
            rw [← HNE.out]
            exact Nat.le_trans (Nat.mul_le_mul (Nat.le_trans hk hm4) hnel) (by omega))
          obtain ⟨O, hO⟩ : ∃ O, O = offK R k := ⟨_, rfl⟩
          obtain ⟨F, hF⟩ : ∃ F, F = (slabsK R k).flatten := ⟨_, rfl⟩
          rw [← hO, ← hF] at HSB
          rw [← hF] at HFB
          have HOO := Lib.hid hO
          have HFF := Lib.hid hF
          have HOL : Hid (O.length + 1 ≤ 1000000000) := Lib.hid (by rw [hO, offK_len]; omega)
          obtain ⟨ao2, co, hov, _⟩ := HSB.out.2.o.ints
          obtain ⟨no, hno⟩ : ∃ n, n = O.length := ⟨_, rfl⟩
          rw [← hno] at hov
          obtain ⟨ae, ce2, hev, hiE⟩ := HSB.out.2.e.edgs
          obtain ⟨f, hf⟩ : ∃ n, n = F.length := ⟨_, rfl⟩
          rw [← hf] at hev
          have HVO := Lib.hid hov
          have HVE := Lib.hid hev
          have HFL0 := Lib.hid hf
          have HFB2 : f ≤ 160000 := by rw [hf]; exact HFB.out
          clear hO hF hov hno hev hf hiE
          by_cases hlt : k < m
          · have hi0 : (0 : Int) ≤ (k : Int) := by omega
            have hi5 : (k : Int) < (m : Int) := by omega
            have cy := HHC.out wr HSB.out.2.keep k (by omega)
            obtain ⟨y, hy⟩ : ∃ y, y = (heightsP R).getD k 0 := ⟨_, rfl⟩
            rw [← hy] at cy
            have HYK := Lib.hid hy
            clear hy
            go_wp2_with fail
            clear cy
            refine wp_region_J (s := [(80, 0), (81, 1), (82, 2), (83, 3), (84, 4), (85, 5), (86, 6), (87, 7), (88, 8), (89, 9), (90, 10), (91, 11), (92, 12), (93, 13)]) (by kernel_rfl) (ChainJ (fun iX => match iX with | 0 => some (.pointer (some ⟨g, 0, none⟩)) | 1 => some (.pointer (some ⟨g, 0, none⟩)) | 2 => some (.pointer (some ⟨g, 0, none⟩)) | 3 => some (.pointer (some ⟨g, 2, none⟩)) | 4 => some (.slice ao2 no co) | 5 => some (.pointer (some ⟨g, 0, none⟩)) | 6 => some (.pointer (some ⟨g, 0, none⟩)) | 7 => some (.pointer (some ⟨g, 3, none⟩)) | 8 => some (.slice ae f ce2) | 9 => some (.int .i64 (f : Int)) | 12 => some (.pointer (some ⟨g, 0, none⟩)) | 13 => some (.pointer (some ⟨g, 2, none⟩)) | _ => none) [10, 11, 14] (StO W3 WE g hv2 ov ev O F (f : Int))) (by kernel_rfl) (by kernel_rfl) (by kernel_rfl) (by kernel_rfl) (fun _ => undef) ?start20 ?step20 ?done20
            case start20 => exact ChainJ.start (⟨HSB.out.1.later ((Below.refl _ _).drew), HSB.out.2.later ((Below.refl _ _).drew)⟩)
            case step20 =>
              refine ⟨?o20_0, ?o20_1, ?o20_2, ?o20_3, ?o20_4, ?o20_5, ?o20_6, ?o20_7, ?o20_8, ?o20_9, ?o20_10, ?o20_11, ?o20_12, ?o20_13, ?o20_14, trivial⟩
              case o20_0 =>
                intro LX V aX wX K hl hp hcl hf hJ hK
                have t5 : aX.tmps[5]? = some (.pointer (some ⟨g, 0, none⟩)) := hf.old (by kernel_rfl) rfl
                rw [if_pos (by rfl)]
                go_simp
                exact hK _ _ (hJ.val 0 _ (by kernel_rfl) rfl (fun _ h => h))
              case o20_1 =>
                intro LX V aX wX K hl hp hcl hf hJ hK
                have t5 : aX.tmps[5]? = some (.pointer (some ⟨g, 0, none⟩)) := hf.old (by kernel_rfl) rfl
                rw [if_pos (by rfl)]
                go_simp
                exact hK _ _ (hJ.val 1 _ (by kernel_rfl) rfl (fun _ h => h))
              case o20_2 =>
                intro LX V aX wX K hl hp hcl hf hJ hK
                have t81 := hf.in (i := 1) (d := 81) (by kernel_rfl) (hp 1 (by kernel_rfl)) (hJ.vals 1 _ rfl (hp 1 (by kernel_rfl)))
                rw [if_pos (by rfl)]
                go_simp
                exact hK _ _ (hJ.val 2 _ (by kernel_rfl) rfl (fun _ h => h))
              case o20_3 =>
                intro LX V aX wX K hl hp hcl hf hJ hK
                have t82 := hf.in (i := 2) (d := 82) (by kernel_rfl) (hp 2 (by kernel_rfl)) (hJ.vals 2 _ rfl (hp 2 (by kernel_rfl)))
                rw [if_pos (by rfl)]
                go_simp
                exact hK _ _ (hJ.val 3 _ (by kernel_rfl) rfl (fun _ h => h))
              case o20_4 =>
                intro LX V aX wX K hl hp hcl hf hJ hK
                have t83 := hf.in (i := 3) (d := 83) (by kernel_rfl) (hp 3 (by kernel_rfl)) (hJ.vals 3 _ rfl (hp 3 (by kernel_rfl)))
                obtain ⟨vs, hlen, hS⟩ := hJ.upto 1 (by decide) (hcl.no 11 (by kernel_rfl) hl)
                have c2 : wX.cell? ⟨g, 2, none⟩ = some ov := by
                  match vs, hlen, hS with
                  | [], _, hS => exact hS.1.cell.2.2.1
                  | [_], _, hS => exact hS.1.cell.2.2.1
                  | _ :: _ :: _, h, _ => exact absurd h (by simp)
                rw [HVO.out] at c2
                rw [if_pos (by rfl)]
                go_simp
                exact hK _ _ (hJ.val 4 _ (by kernel_rfl) rfl (fun _ h => h))
              case o20_5 =>
                intro LX V aX wX K hl hp hcl hf hJ hK
                have t5 : aX.tmps[5]? = some (.pointer (some ⟨g, 0, none⟩)) := hf.old (by kernel_rfl) rfl
                rw [if_pos (by rfl)]
                go_simp
                exact hK _ _ (hJ.val 5 _ (by kernel_rfl) rfl (fun _ h => h))
              case o20_6 =>
                intro LX V aX wX K hl hp hcl hf hJ hK
                have t85 := hf.in (i := 5) (d := 85) (by kernel_rfl) (hp 5 (by kernel_rfl)) (hJ.vals 5 _ rfl (hp 5 (by kernel_rfl)))
                rw [if_pos (by rfl)]
                go_simp
                exact hK _ _ (hJ.val 6 _ (by kernel_rfl) rfl (fun _ h => h))
              case o20_7 =>
                intro LX V aX wX K hl hp hcl hf hJ hK
                have t86 := hf.in (i := 6) (d := 86) (by kernel_rfl) (hp 6 (by kernel_rfl)) (hJ.vals 6 _ rfl (hp 6 (by kernel_rfl)))
                rw [if_pos (by rfl)]
                go_simp
                exact hK _ _ (hJ.val 7 _ (by kernel_rfl) rfl (fun _ h => h))
              case o20_8 =>
                intro LX V aX wX K hl hp hcl hf hJ hK
                have t87 := hf.in (i := 7) (d := 87) (by kernel_rfl) (hp 7 (by kernel_rfl)) (hJ.vals 7 _ rfl (hp 7 (by kernel_rfl)))
                obtain ⟨vs, hlen, hS⟩ := hJ.upto 0 (by decide) (hcl.no 10 (by kernel_rfl) (hcl.no 9 (by kernel_rfl) (hl)))
                have c3 : wX.cell? ⟨g, 3, none⟩ = some ev := by
                  match vs, hlen, hS with
                  | [], _, hS => exact hS.1.cell.2.2.2
                  | _ :: _, h, _ => exact absurd h (by simp)
                rw [HVE.out] at c3
                rw [if_pos (by rfl)]
                go_simp
                exact hK _ _ (hJ.val 8 _ (by kernel_rfl) rfl (fun _ h => h))
              case o20_9 =>
                intro LX V aX wX K hl hp hcl hf hJ hK
                have t88 := hf.in (i := 8) (d := 88) (by kernel_rfl) (hp 8 (by kernel_rfl)) (hJ.vals 8 _ rfl (hp 8 (by kernel_rfl)))
                rw [if_pos (by rfl)]
                go_simp
                exact hK _ _ (hJ.val 9 _ (by kernel_rfl) rfl (fun _ h => h))
              case o20_10 =>
                intro LX V aX wX K hl hp hcl hf hJ hK
                have t89 := hf.in (i := 9) (d := 89) (by kernel_rfl) (hp 9 (by kernel_rfl)) (hJ.vals 9 _ rfl (hp 9 (by kernel_rfl)))
                rw [if_pos (by rfl)]
                obtain ⟨vs, hlen, hvs, hS, hn⟩ := hJ.next (by kernel_rfl) 0 (by kernel_rfl) hl (.inl rfl) rfl
                match vs, hlen, hvs, hS, hn with
                | [], _, hvs, hS, hn =>
                  go_simp
                  exact hK _ _ (hn _ _ ⟨hS.1.later ((Below.refl _ _).alloc (Nat.le_refl _) _), hS.2.later ((Below.refl _ _).alloc (Nat.le_refl _) _), ⟨_, rfl, one_ints _ _⟩⟩)
              case o20_11 =>
                intro LX V aX wX K hl hp hcl hf hJ hK
                have t84 := hf.in (i := 4) (d := 84) (by kernel_rfl) (hp 4 (by kernel_rfl)) (hJ.vals 4 _ rfl (hp 4 (by kernel_rfl)))
                have t90 := hf.in (i := 10) (d := 90) (by kernel_rfl) (hp 10 (by kernel_rfl)) rfl
                rw [if_pos (by rfl)]
                obtain ⟨vs, hlen, hvs, hS, hn⟩ := hJ.next (by kernel_rfl) 1 (by kernel_rfl) hl (.inr (hp 10 (by kernel_rfl))) rfl
                match vs, hlen, hvs, hS, hn with
                | [a0], _, hvs, hS, hn =>
                  have e0 : V 10 = a0 := hvs 0 (by decide)
                  obtain ⟨h1, h2, k, hk, hi⟩ := hS
                  rw [e0, hk] at t90
                  rw [← HVO.out] at t84
                  refine opwp_append_intsF _ _ rfl WE.heap.size ov O (eval_tmp t84) h2.o _ _ _ [(f : Int)] (eval_tmp t90) hi HOL.out h2.size ?_
                  intro v' w' ho hg hf
                  exact hK _ _ (hn _ _ ⟨h1.grown hg (fun k hk => Nat.lt_of_lt_of_le h2.glt (own_lt h2.o hk).1), h2.growO ho hg⟩)
              case o20_12 =>
                intro LX V aX wX K hl hp hcl hf hJ hK
                have t80 := hf.in (i := 0) (d := 80) (by kernel_rfl) (hp 0 (by kernel_rfl)) (hJ.vals 0 _ rfl (hp 0 (by kernel_rfl)))
                rw [if_pos (by rfl)]
                go_simp
                exact hK _ _ (hJ.val 12 _ (by kernel_rfl) rfl (fun _ h => h))
              case o20_13 =>
                intro LX V aX wX K hl hp hcl hf hJ hK
                have t92 := hf.in (i := 12) (d := 92) (by kernel_rfl) (hp 12 (by kernel_rfl)) (hJ.vals 12 _ rfl (hp 12 (by kernel_rfl)))
                rw [if_pos (by rfl)]
                go_simp
                exact hK _ _ (hJ.val 13 _ (by kernel_rfl) rfl (fun _ h => h))
              case o20_14 =>
                intro LX V aX wX K hl hp hcl hf hJ hK
                have t93 := hf.in (i := 13) (d := 93) (by kernel_rfl) (hp 13 (by kernel_rfl)) (hJ.vals 13 _ rfl (hp 13 (by kernel_rfl)))
                have t91 := hf.in (i := 11) (d := 91) (by kernel_rfl) (hp 11 (by kernel_rfl)) rfl
                rw [if_pos (by rfl)]
                obtain ⟨vs, hlen, hvs, hS, hn⟩ := hJ.next (by kernel_rfl) 2 (by kernel_rfl) hl (.inr (hp 11 (by kernel_rfl))) rfl
                match vs, hlen, hvs, hS, hn with
                | [a0, a1], _, hvs, hS, hn =>
                  have e0 : V 10 = a0 := hvs 0 (by decide)
                  have e1 : V 11 = a1 := hvs 1 (by decide)
                  obtain ⟨h1, h2⟩ := hS
                  have f1 := h1.frozen 2
                  have c1 := h1.cell.2.2.1
                  obtain ⟨aN, cN, hvN, _⟩ := h2.o.ints
                  have hvN2 := hvN
                  generalize (O ++ [(f : Int)]).length = M at hvN
                  rw [e1, hvN] at t91
                  go_simp
                  refine hK undef _ (hn undef _ ⟨?_, h2.set⟩)
                  rw [hvN]
                  exact h1.setO
            intro V wZ hJ
            obtain ⟨vs, hlen, hvs, hS⟩ := hJ.all (by kernel_rfl)
            match vs, hlen, hvs, hS with
            | [a0, a1, a2], _, hvs, hS =>
              have e0 : V 10 = a0 := hvs 0 (by decide)
              have e1 : V 11 = a1 := hvs 1 (by decide)
              have e2 : V 14 = a2 := hvs 2 (by decide)
              have HZ := Lib.hid hS
              simp only [puts, Act.put, List.setIfInBounds_toArray, List.set_cons_zero, List.set_cons_succ]
              clear hJ hvs hS
              have HZ2 : Hid (SBr g hv2 a1 ev wZ ∧ SB2 W3 WE g a1 ev (offK R (k + 1)) (F ++ ((edgesP R).take 0).filter (upB y)) wZ) := Lib.hid (by
                rw [offK_succ, ← HOO.out, ← HFF.out, ← HFL0.out, show ((edgesP R).take 0).filter (upB y) = [] from rfl, List.append_nil]
                exact HZ.out)
              clear HSB
              go_wp2_with fail
              go_loopw [96] (fun i wr => ∃ k2 : Nat, k2 ≤ ne ∧ i = .int .i64 k2 ∧ ∃ ov ev, Hid (SBr g hv2 ov ev wr ∧ SB2 W3 WE g ov ev (offK R (k + 1)) (F ++ ((edgesP R).take k2).filter (upB y)) wr)) (fun i _ => ne - (intOf i).toNat)
              case atStart => exact ⟨0, by omega, rfl, _, _, HZ2⟩
              case round =>
                clear HVO HVE
                obtain ⟨k2, hk2, rfl, ov, ev, HSI⟩ := hrel
                by_cases hlt2 : k2 < ne
                · have hj0 : (0 : Int) ≤ (k2 : Int) := by omega
                  have hj5 : (k2 : Int) < (ne : Int) := by omega
                  obtain ⟨be, oe, hade, d0, d1, d2, d3⟩ := HAD.out wr HSI.out.2.keep k2 hlt2
                  subst hade
                  obtain ⟨ed, hed⟩ : ∃ e, e = (edgesP R).getD k2 ed0 := ⟨_, rfl⟩
                  rw [← hed] at d0 d1 d2 d3
                  obtain ⟨lo, hi⟩ := ed
                  dsimp only at d0 d1 d2 d3
                  have HTK : Hid (((edgesP R).take (k2 + 1)).filter (upB y) = ((edgesP R).take k2).filter (upB y) ++ (if upB y (lo, hi) = true then [(lo, hi)] else [])) := Lib.hid (by
                    rw [take_more (d := ed0) (by rw [← HNE.out]; exact hlt2), ← hed, List.filter_append]
                    congr 1
                    simp only [List.filter_cons, List.filter_nil])
                  have HFL : Hid ((F ++ ((edgesP R).take k2).filter (upB y)).length + 1 ≤ 1000000000) := Lib.hid (by
                    have h1 := List.length_filter_le (upB y) ((edgesP R).take k2)
                    have h2 := HFB.out
                    rw [List.length_take] at h1
                    rw [List.length_append]; omega)
                  obtain ⟨F1, hF1⟩ : ∃ F1, F1 = F := ⟨_, rfl⟩
                  rw [← hF1] at HSI HFL HFF HFB HFL0 HZ HZ2 ⊢
                  clear hF1
                  obtain ⟨F, hFd⟩ : ∃ F2, F2 = F1 ++ ((edgesP R).take k2).filter (upB y) := ⟨_, rfl⟩
                  rw [← hFd] at HSI HFL
                  have HFD := Lib.hid hFd
                  obtain ⟨O, hO⟩ : ∃ O, O = offK R (k + 1) := ⟨_, rfl⟩
                  rw [← hO] at HSI
                  have HOD := Lib.hid hO
                  obtain ⟨W9, hW9⟩ : ∃ W, W = wr.alloc (.cells #[.int .i64 lo.x, .int .i64 lo.y, .int .i64 hi.x, .int .i64 hi.y] 139) := ⟨_, rfl⟩
                  obtain ⟨bq, hbq⟩ : ∃ b, b = wr.heap.size := ⟨_, rfl⟩
                  have HS9 : Hid (SBr g hv2 ov ev W9 ∧ SB2 W3 WE g ov ev O F W9 ∧ W9.cell? ⟨bq, 0, none⟩ = some (.int .i64 lo.x) ∧ W9.cell? ⟨bq, 1, none⟩ = some (.int .i64 lo.y) ∧ W9.cell? ⟨bq, 2, none⟩ = some (.int .i64 hi.x) ∧ W9.cell? ⟨bq, 3, none⟩ = some (.int .i64 hi.y)) := Lib.hid (by
                    have hb : Below wr.heap.size wr W9 := by rw [hW9]; exact (Below.refl _ _).alloc (Nat.le_refl _) _
                    refine ⟨HSI.out.1.later hb, HSI.out.2.later hb, ?_⟩
                    rw [hW9, hbq]
                    have k := alloc_new wr (.cells #[.int .i64 lo.x, .int .i64 lo.y, .int .i64 hi.x, .int .i64 hi.y] 139)
                    exact ⟨cell_of_row _ _ _ _ _ _ k, cell_of_row _ _ _ _ _ _ k, cell_of_row _ _ _ _ _ _ k, cell_of_row _ _ _ _ _ _ k⟩)
                  obtain ⟨ae, ce2, hev, _⟩ := HSI.out.2.e.edgs
                  obtain ⟨f, hf⟩ : ∃ n, n = F.length := ⟨_, rfl⟩
                  rw [← hf] at hev
                  have HVE := Lib.hid hev
                  clear hed hFd hO hev hf
                  by_cases h1 : lo.y ≤ y
                  · by_cases h2 : y < hi.y
                    · have HFT2 : Hid (F1 ++ ((edgesP R).take (k2 + 1)).filter (upB y) = F ++ [(lo, hi)]) := Lib.hid (by
                        rw [HTK.out, HFD.out, ← List.append_assoc]
                        congr 1
                        rw [if_pos (by unfold upB; simp [h1, h2])])
                      go_wp2_with fail
                      rw [← hW9, ← hbq]
                      clear hW9 hbq d0 d1 d2 d3
                      refine wp_region_J (s := [(112, 0), (113, 1), (114, 2), (115, 3), (116, 4), (117, 5), (118, 6), (119, 7), (120, 8), (121, 9)]) (by kernel_rfl) (ChainJ (fun iX => match iX with | 0 => some (.pointer (some ⟨g, 0, none⟩)) | 1 => some (.pointer (some ⟨g, 0, none⟩)) | 2 => some (.pointer (some ⟨g, 0, none⟩)) | 3 => some (.pointer (some ⟨g, 3, none⟩)) | 4 => some (.slice ae f ce2) | 5 => some (.agg #[.int .i64 lo.x, .int .i64 lo.y, .int .i64 hi.x, .int .i64 hi.y]) | 8 => some (.pointer (some ⟨g, 0, none⟩)) | 9 => some (.pointer (some ⟨g, 3, none⟩)) | _ => none) [6, 7, 10] (StE W3 WE g hv2 ov ev O F (lo, hi) (fun w => w.cell? ⟨bq, 0, none⟩ = some (.int .i64 lo.x) ∧ w.cell? ⟨bq, 1, none⟩ = some (.int .i64 lo.y) ∧ w.cell? ⟨bq, 2, none⟩ = some (.int .i64 hi.x) ∧ w.cell? ⟨bq, 3, none⟩ = some (.int .i64 hi.y)))) (by kernel_rfl) (by kernel_rfl) (by kernel_rfl) (by kernel_rfl) (fun _ => undef) ?start25 ?step25 ?done25
                      case start25 => exact ChainJ.start (⟨HS9.out.1.later ((Below.refl _ _).drew), HS9.out.2.1.later ((Below.refl _ _).drew), HS9.out.2.2⟩)
                      case step25 =>
                        refine ⟨?o25_0, ?o25_1, ?o25_2, ?o25_3, ?o25_4, ?o25_5, ?o25_6, ?o25_7, ?o25_8, ?o25_9, ?o25_10, trivial⟩
                        case o25_0 =>
                          intro LX V aX wX K hl hp hcl hf hJ hK
                          have t5 : aX.tmps[5]? = some (.pointer (some ⟨g, 0, none⟩)) := hf.old (by kernel_rfl) rfl
                          rw [if_pos (by rfl)]
                          go_simp
                          exact hK _ _ (hJ.val 0 _ (by kernel_rfl) rfl (fun _ h => h))
                        case o25_1 =>
                          intro LX V aX wX K hl hp hcl hf hJ hK
                          have t5 : aX.tmps[5]? = some (.pointer (some ⟨g, 0, none⟩)) := hf.old (by kernel_rfl) rfl
                          rw [if_pos (by rfl)]
                          go_simp
                          exact hK _ _ (hJ.val 1 _ (by kernel_rfl) rfl (fun _ h => h))
                        case o25_2 =>
                          intro LX V aX wX K hl hp hcl hf hJ hK
                          have t113 := hf.in (i := 1) (d := 113) (by kernel_rfl) (hp 1 (by kernel_rfl)) (hJ.vals 1 _ rfl (hp 1 (by kernel_rfl)))
                          rw [if_pos (by rfl)]
                          go_simp
                          exact hK _ _ (hJ.val 2 _ (by kernel_rfl) rfl (fun _ h => h))
                        case o25_3 =>
                          intro LX V aX wX K hl hp hcl hf hJ hK
                          have t114 := hf.in (i := 2) (d := 114) (by kernel_rfl) (hp 2 (by kernel_rfl)) (hJ.vals 2 _ rfl (hp 2 (by kernel_rfl)))
                          rw [if_pos (by rfl)]
                          go_simp
                          exact hK _ _ (hJ.val 3 _ (by kernel_rfl) rfl (fun _ h => h))
                        case o25_4 =>
                          intro LX V aX wX K hl hp hcl hf hJ hK
                          have t115 := hf.in (i := 3) (d := 115) (by kernel_rfl) (hp 3 (by kernel_rfl)) (hJ.vals 3 _ rfl (hp 3 (by kernel_rfl)))
                          obtain ⟨vs, hlen, hS⟩ := hJ.upto 1 (by decide) (hcl.no 7 (by kernel_rfl) hl)
                          have c3 : wX.cell? ⟨g, 3, none⟩ = some ev := by
                            match vs, hlen, hS with
                            | [], _, hS => exact hS.1.cell.2.2.2
                            | [_], _, hS => exact hS.1.cell.2.2.2
                            | _ :: _ :: _, h, _ => exact absurd h (by simp)
                          rw [HVE.out] at c3
                          rw [if_pos (by rfl)]
                          go_simp
                          exact hK _ _ (hJ.val 4 _ (by kernel_rfl) rfl (fun _ h => h))
                        case o25_5 =>
                          intro LX V aX wX K hl hp hcl hf hJ hK
                          have t14 : aX.tmps[14]? = some (.pointer (some ⟨bq, 0, none⟩)) := hf.old (by kernel_rfl) rfl
                          obtain ⟨vs, hlen, hS⟩ := hJ.upto 0 (by decide) (hcl.no 6 (by kernel_rfl) hl)
                          have c4 : wX.cell? ⟨bq, 0, none⟩ = some (.int .i64 lo.x) ∧ wX.cell? ⟨bq, 1, none⟩ = some (.int .i64 lo.y) ∧ wX.cell? ⟨bq, 2, none⟩ = some (.int .i64 hi.x) ∧ wX.cell? ⟨bq, 3, none⟩ = some (.int .i64 hi.y) := by
                            match vs, hlen, hS with
                            | [], _, hS => exact hS.2.2
                            | _ :: _, h, _ => exact absurd h (by simp)
                          obtain ⟨d0, d1, d2, d3⟩ := c4
                          rw [if_pos (by rfl)]
                          go_simp
                          exact hK _ _ (hJ.val 5 _ (by kernel_rfl) rfl (fun _ h => h))
                        case o25_6 =>
                          intro LX V aX wX K hl hp hcl hf hJ hK
                          have t117 := hf.in (i := 5) (d := 117) (by kernel_rfl) (hp 5 (by kernel_rfl)) (hJ.vals 5 _ rfl (hp 5 (by kernel_rfl)))
                          rw [if_pos (by rfl)]
                          obtain ⟨vs, hlen, hvs, hS, hn⟩ := hJ.next (by kernel_rfl) 0 (by kernel_rfl) hl (.inl rfl) rfl
                          match vs, hlen, hvs, hS, hn with
                          | [], _, hvs, hS, hn =>
                            go_simp
                            exact hK _ _ (hn _ _ ⟨hS.1.later ((Below.refl _ _).alloc (Nat.le_refl _) _), hS.2.1.later ((Below.refl _ _).alloc (Nat.le_refl _) _), ⟨_, rfl, one_edg _ (lo, hi)⟩⟩)
                        case o25_7 =>
                          intro LX V aX wX K hl hp hcl hf hJ hK
                          have t116 := hf.in (i := 4) (d := 116) (by kernel_rfl) (hp 4 (by kernel_rfl)) (hJ.vals 4 _ rfl (hp 4 (by kernel_rfl)))
                          have t118 := hf.in (i := 6) (d := 118) (by kernel_rfl) (hp 6 (by kernel_rfl)) rfl
                          rw [if_pos (by rfl)]
                          obtain ⟨vs, hlen, hvs, hS, hn⟩ := hJ.next (by kernel_rfl) 1 (by kernel_rfl) hl (.inr (hp 6 (by kernel_rfl))) rfl
                          match vs, hlen, hvs, hS, hn with
                          | [a0], _, hvs, hS, hn =>
                            have e0 : V 6 = a0 := hvs 0 (by decide)
                            obtain ⟨h1, h2, k, hk, hi2⟩ := hS
                            rw [e0, hk] at t118
                            rw [← HVE.out] at t116
                            refine opwp_append_edgF _ _ rfl WE.heap.size ev F (eval_tmp t116) h2.e _ _ _ [(lo, hi)] (eval_tmp t118) hi2 HFL.out h2.size ?_
                            intro v' w' ho hg hf
                            exact hK _ _ (hn _ _ ⟨h1.grown hg (fun k hk => Nat.lt_of_lt_of_le h2.glt (own_lt h2.e hk).1), h2.growE ho hg⟩)
                        case o25_8 =>
                          intro LX V aX wX K hl hp hcl hf hJ hK
                          have t112 := hf.in (i := 0) (d := 112) (by kernel_rfl) (hp 0 (by kernel_rfl)) (hJ.vals 0 _ rfl (hp 0 (by kernel_rfl)))
                          rw [if_pos (by rfl)]
                          go_simp
                          exact hK _ _ (hJ.val 8 _ (by kernel_rfl) rfl (fun _ h => h))
                        case o25_9 =>
                          intro LX V aX wX K hl hp hcl hf hJ hK
                          have t120 := hf.in (i := 8) (d := 120) (by kernel_rfl) (hp 8 (by kernel_rfl)) (hJ.vals 8 _ rfl (hp 8 (by kernel_rfl)))
                          rw [if_pos (by rfl)]
                          go_simp
                          exact hK _ _ (hJ.val 9 _ (by kernel_rfl) rfl (fun _ h => h))
                        case o25_10 =>
                          intro LX V aX wX K hl hp hcl hf hJ hK
                          have t121 := hf.in (i := 9) (d := 121) (by kernel_rfl) (hp 9 (by kernel_rfl)) (hJ.vals 9 _ rfl (hp 9 (by kernel_rfl)))
                          have t119 := hf.in (i := 7) (d := 119) (by kernel_rfl) (hp 7 (by kernel_rfl)) rfl
                          rw [if_pos (by rfl)]
                          obtain ⟨vs, hlen, hvs, hS, hn⟩ := hJ.next (by kernel_rfl) 2 (by kernel_rfl) hl (.inr (hp 7 (by kernel_rfl))) rfl
                          match vs, hlen, hvs, hS, hn with
                          | [a0, a1], _, hvs, hS, hn =>
                            have e0 : V 6 = a0 := hvs 0 (by decide)
                            have e1 : V 7 = a1 := hvs 1 (by decide)
                            obtain ⟨h1, h2⟩ := hS
                            have f1 := h1.frozen 3
                            have c1 := h1.cell.2.2.2
                            obtain ⟨aN, cN, hvN, _⟩ := h2.e.edgs
                            have hvN2 := hvN
                            generalize (F ++ [(lo, hi)]).length = M at hvN
                            rw [e1, hvN] at t119
                            go_simp
                            refine hK undef _ (hn undef _ ⟨?_, h2.set⟩)
                            rw [hvN]
                            exact h1.setE
                      intro V wZ hJ
                      obtain ⟨vs, hlen, hvs, hS⟩ := hJ.all (by kernel_rfl)
                      match vs, hlen, hvs, hS with
                      | [a0, a1, a2], _, hvs, hS =>
                        have e0 : V 6 = a0 := hvs 0 (by decide)
                        have e1 : V 7 = a1 := hvs 1 (by decide)
                        have e2 : V 10 = a2 := hvs 2 (by decide)
                        have HZ := Lib.hid hS
                        simp only [puts, Act.put, List.setIfInBounds_toArray, List.set_cons_zero, List.set_cons_succ]
                        clear hJ hvs hS
                        go_wp2_with fail
                        go_roundw
                        case rel => exact ⟨k2 + 1, by omega, by go_num, ov, a1, Lib.hid (by rw [HFT2.out, ← HOD.out]; exact HZ.out)⟩
                        case measure => simp [intOf]; omega
                    · have HFT2 : Hid (F1 ++ ((edgesP R).take (k2 + 1)).filter (upB y) = F) := Lib.hid (by
                        rw [HTK.out, HFD.out]
                        congr 1
                        rw [if_neg (by unfold upB; simp [h2]), List.append_nil])
                      go_wp2_with fail
                      rw [← hW9]
                      clear hW9 hbq d0 d1 d2 d3
                      go_roundw
                      case rel => exact ⟨k2 + 1, by omega, by go_num, ov, ev, Lib.hid (by rw [HFT2.out, ← HOD.out]; exact ⟨HS9.out.1, HS9.out.2.1⟩)⟩
                      case measure => simp [intOf]; omega
                  · have HFT2 : Hid (F1 ++ ((edgesP R).take (k2 + 1)).filter (upB y) = F) := Lib.hid (by
                      rw [HTK.out, HFD.out]
                      congr 1
                      rw [if_neg (by unfold upB; simp [h1]), List.append_nil])
                    go_wp2_with fail
                    rw [← hW9]
                    clear hW9 hbq d0 d1 d2 d3
                    go_roundw
                    case rel => exact ⟨k2 + 1, by omega, by go_num, ov, ev, Lib.hid (by rw [HFT2.out, ← HOD.out]; exact ⟨HS9.out.1, HS9.out.2.1⟩)⟩
                    case measure => simp [intOf]; omega
                · have hkn2 : ne = k2 := by omega
                  subst hkn2
                  have hj5 : ¬ (ne : Int) < (ne : Int) := by omega
                  have HFE : Hid ((slabsK R (k + 1)).flatten = F ++ ((edgesP R).take ne).filter (upB y)) := Lib.hid (by
                    rw [slabsK_flat, ← HFF.out, List.take_of_length_le (by rw [← HNE.out]; exact Nat.le_refl _), HYK.out]; rfl)
                  go_wp2_with fail
                  go_roundw
                  case rel => exact ⟨k + 1, by omega, by go_num, ov, ev, Lib.hid (by rw [HFE.out]; exact HSI.out)⟩
                  case measure => simp [intOf]; omega
          · have hkm : m = k := by omega
            subst hkm
            have hi5 : ¬ (m : Int) < (m : Int) := by omega
            go_wp2_with fail
            refine wp_region_J (s := [(124, 0), (125, 1), (126, 2), (127, 3), (128, 4), (129, 5), (130, 6), (131, 7), (132, 8), (133, 9), (134, 10), (135, 11), (136, 12), (137, 13)]) (by kernel_rfl) (ChainJ (fun iX => match iX with | 0 => some (.pointer (some ⟨g, 0, none⟩)) | 1 => some (.pointer (some ⟨g, 0, none⟩)) | 2 => some (.pointer (some ⟨g, 0, none⟩)) | 3 => some (.pointer (some ⟨g, 2, none⟩)) | 4 => some (.slice ao2 no co) | 5 => some (.pointer (some ⟨g, 0, none⟩)) | 6 => some (.pointer (some ⟨g, 0, none⟩)) | 7 => some (.pointer (some ⟨g, 3, none⟩)) | 8 => some (.slice ae f ce2) | 9 => some (.int .i64 (f : Int)) | 12 => some (.pointer (some ⟨g, 0, none⟩)) | 13 => some (.pointer (some ⟨g, 2, none⟩)) | _ => none) [10, 11, 14] (StO W3 WE g hv2 ov ev O F (f : Int))) (by kernel_rfl) (by kernel_rfl) (by kernel_rfl) (by kernel_rfl) (fun _ => undef) ?start28 ?step28 ?done28
            case start28 => exact ChainJ.start (⟨HSB.out.1.later ((Below.refl _ _).drew), HSB.out.2.later ((Below.refl _ _).drew)⟩)
            case step28 =>
              refine ⟨?o28_0, ?o28_1, ?o28_2, ?o28_3, ?o28_4, ?o28_5, ?o28_6, ?o28_7, ?o28_8, ?o28_9, ?o28_10, ?o28_11, ?o28_12, ?o28_13, ?o28_14, trivial⟩
              case o28_0 =>
                intro LX V aX wX K hl hp hcl hf hJ hK
                have t5 : aX.tmps[5]? = some (.pointer (some ⟨g, 0, none⟩)) := hf.old (by kernel_rfl) rfl
                rw [if_pos (by rfl)]
                go_simp
                exact hK _ _ (hJ.val 0 _ (by kernel_rfl) rfl (fun _ h => h))
              case o28_1 =>
                intro LX V aX wX K hl hp hcl hf hJ hK
                have t5 : aX.tmps[5]? = some (.pointer (some ⟨g, 0, none⟩)) := hf.old (by kernel_rfl) rfl
                rw [if_pos (by rfl)]
                go_simp
                exact hK _ _ (hJ.val 1 _ (by kernel_rfl) rfl (fun _ h => h))
              case o28_2 =>
                intro LX V aX wX K hl hp hcl hf hJ hK
                have t125 := hf.in (i := 1) (d := 125) (by kernel_rfl) (hp 1 (by kernel_rfl)) (hJ.vals 1 _ rfl (hp 1 (by kernel_rfl)))
                rw [if_pos (by rfl)]
                go_simp
                exact hK _ _ (hJ.val 2 _ (by kernel_rfl) rfl (fun _ h => h))
              case o28_3 =>
                intro LX V aX wX K hl hp hcl hf hJ hK
                have t126 := hf.in (i := 2) (d := 126) (by kernel_rfl) (hp 2 (by kernel_rfl)) (hJ.vals 2 _ rfl (hp 2 (by kernel_rfl)))
                rw [if_pos (by rfl)]
                go_simp
                exact hK _ _ (hJ.val 3 _ (by kernel_rfl) rfl (fun _ h => h))
              case o28_4 =>
                intro LX V aX wX K hl hp hcl hf hJ hK
                have t127 := hf.in (i := 3) (d := 127) (by kernel_rfl) (hp 3 (by kernel_rfl)) (hJ.vals 3 _ rfl (hp 3 (by kernel_rfl)))
                obtain ⟨vs, hlen, hS⟩ := hJ.upto 1 (by decide) (hcl.no 11 (by kernel_rfl) hl)
                have c2 : wX.cell? ⟨g, 2, none⟩ = some ov := by
                  match vs, hlen, hS with
                  | [], _, hS => exact hS.1.cell.2.2.1
                  | [_], _, hS => exact hS.1.cell.2.2.1
                  | _ :: _ :: _, h, _ => exact absurd h (by simp)
                rw [HVO.out] at c2
                rw [if_pos (by rfl)]
                go_simp
                exact hK _ _ (hJ.val 4 _ (by kernel_rfl) rfl (fun _ h => h))
              case o28_5 =>
                intro LX V aX wX K hl hp hcl hf hJ hK
                have t5 : aX.tmps[5]? = some (.pointer (some ⟨g, 0, none⟩)) := hf.old (by kernel_rfl) rfl
                rw [if_pos (by rfl)]
                go_simp
                exact hK _ _ (hJ.val 5 _ (by kernel_rfl) rfl (fun _ h => h))
              case o28_6 =>
                intro LX V aX wX K hl hp hcl hf hJ hK
                have t129 := hf.in (i := 5) (d := 129) (by kernel_rfl) (hp 5 (by kernel_rfl)) (hJ.vals 5 _ rfl (hp 5 (by kernel_rfl)))
                rw [if_pos (by rfl)]
                go_simp
                exact hK _ _ (hJ.val 6 _ (by kernel_rfl) rfl (fun _ h => h))
              case o28_7 =>
                intro LX V aX wX K hl hp hcl hf hJ hK
                have t130 := hf.in (i := 6) (d := 130) (by kernel_rfl) (hp 6 (by kernel_rfl)) (hJ.vals 6 _ rfl (hp 6 (by kernel_rfl)))
                rw [if_pos (by rfl)]
                go_simp
                exact hK _ _ (hJ.val 7 _ (by kernel_rfl) rfl (fun _ h => h))
              case o28_8 =>
                intro LX V aX wX K hl hp hcl hf hJ hK
                have t131 := hf.in (i := 7) (d := 131) (by kernel_rfl) (hp 7 (by kernel_rfl)) (hJ.vals 7 _ rfl (hp 7 (by kernel_rfl)))
                obtain ⟨vs, hlen, hS⟩ := hJ.upto 0 (by decide) (hcl.no 10 (by kernel_rfl) (hcl.no 9 (by kernel_rfl) (hl)))
                have c3 : wX.cell? ⟨g, 3, none⟩ = some ev := by
                  match vs, hlen, hS with
                  | [], _, hS => exact hS.1.cell.2.2.2
                  | _ :: _, h, _ => exact absurd h (by simp)
                rw [HVE.out] at c3
                rw [if_pos (by rfl)]
                go_simp
                exact hK _ _ (hJ.val 8 _ (by kernel_rfl) rfl (fun _ h => h))
              case o28_9 =>
                intro LX V aX wX K hl hp hcl hf hJ hK
                have t132 := hf.in (i := 8) (d := 132) (by kernel_rfl) (hp 8 (by kernel_rfl)) (hJ.vals 8 _ rfl (hp 8 (by kernel_rfl)))
                rw [if_pos (by rfl)]
                go_simp
                exact hK _ _ (hJ.val 9 _ (by kernel_rfl) rfl (fun _ h => h))
              case o28_10 =>
                intro LX V aX wX K hl hp hcl hf hJ hK
                have t133 := hf.in (i := 9) (d := 133) (by kernel_rfl) (hp 9 (by kernel_rfl)) (hJ.vals 9 _ rfl (hp 9 (by kernel_rfl)))
                rw [if_pos (by rfl)]
                obtain ⟨vs, hlen, hvs, hS, hn⟩ := hJ.next (by kernel_rfl) 0 (by kernel_rfl) hl (.inl rfl) rfl
                match vs, hlen, hvs, hS, hn with
                | [], _, hvs, hS, hn =>
                  go_simp
                  exact hK _ _ (hn _ _ ⟨hS.1.later ((Below.refl _ _).alloc (Nat.le_refl _) _), hS.2.later ((Below.refl _ _).alloc (Nat.le_refl _) _), ⟨_, rfl, one_ints _ _⟩⟩)
              case o28_11 =>
                intro LX V aX wX K hl hp hcl hf hJ hK
                have t128 := hf.in (i := 4) (d := 128) (by kernel_rfl) (hp 4 (by kernel_rfl)) (hJ.vals 4 _ rfl (hp 4 (by kernel_rfl)))
                have t134 := hf.in (i := 10) (d := 134) (by kernel_rfl) (hp 10 (by kernel_rfl)) rfl
                rw [if_pos (by rfl)]
                obtain ⟨vs, hlen, hvs, hS, hn⟩ := hJ.next (by kernel_rfl) 1 (by kernel_rfl) hl (.inr (hp 10 (by kernel_rfl))) rfl
                match vs, hlen, hvs, hS, hn with
                | [a0], _, hvs, hS, hn =>
                  have e0 : V 10 = a0 := hvs 0 (by decide)
                  obtain ⟨h1, h2, k, hk, hi⟩ := hS
                  rw [e0, hk] at t134
                  rw [← HVO.out] at t128
                  refine opwp_append_intsF _ _ rfl WE.heap.size ov O (eval_tmp t128) h2.o _ _ _ [(f : Int)] (eval_tmp t134) hi HOL.out h2.size ?_
                  intro v' w' ho hg hf
                  exact hK _ _ (hn _ _ ⟨h1.grown hg (fun k hk => Nat.lt_of_lt_of_le h2.glt (own_lt h2.o hk).1), h2.growO ho hg⟩)
              case o28_12 =>
                intro LX V aX wX K hl hp hcl hf hJ hK
                have t124 := hf.in (i := 0) (d := 124) (by kernel_rfl) (hp 0 (by kernel_rfl)) (hJ.vals 0 _ rfl (hp 0 (by kernel_rfl)))
                rw [if_pos (by rfl)]
                go_simp
                exact hK _ _ (hJ.val 12 _ (by kernel_rfl) rfl (fun _ h => h))
              case o28_13 =>
                intro LX V aX wX K hl hp hcl hf hJ hK
                have t136 := hf.in (i := 12) (d := 136) (by kernel_rfl) (hp 12 (by kernel_rfl)) (hJ.vals 12 _ rfl (hp 12 (by kernel_rfl)))
                rw [if_pos (by rfl)]
                go_simp
                exact hK _ _ (hJ.val 13 _ (by kernel_rfl) rfl (fun _ h => h))
              case o28_14 =>
                intro LX V aX wX K hl hp hcl hf hJ hK
                have t137 := hf.in (i := 13) (d := 137) (by kernel_rfl) (hp 13 (by kernel_rfl)) (hJ.vals 13 _ rfl (hp 13 (by kernel_rfl)))
                have t135 := hf.in (i := 11) (d := 135) (by kernel_rfl) (hp 11 (by kernel_rfl)) rfl
                rw [if_pos (by rfl)]
                obtain ⟨vs, hlen, hvs, hS, hn⟩ := hJ.next (by kernel_rfl) 2 (by kernel_rfl) hl (.inr (hp 11 (by kernel_rfl))) rfl
                match vs, hlen, hvs, hS, hn with
                | [a0, a1], _, hvs, hS, hn =>
                  have e0 : V 10 = a0 := hvs 0 (by decide)
                  have e1 : V 11 = a1 := hvs 1 (by decide)
                  obtain ⟨h1, h2⟩ := hS
                  have f1 := h1.frozen 2
                  have c1 := h1.cell.2.2.1
                  obtain ⟨aN, cN, hvN, _⟩ := h2.o.ints
                  have hvN2 := hvN
                  generalize (O ++ [(f : Int)]).length = M at hvN
                  rw [e1, hvN] at t135
                  go_simp
                  refine hK undef _ (hn undef _ ⟨?_, h2.set⟩)
                  rw [hvN]
                  exact h1.setO
            intro V wZ hJ
            obtain ⟨vs, hlen, hvs, hS⟩ := hJ.all (by kernel_rfl)
            match vs, hlen, hvs, hS with
            | [a0, a1, a2], _, hvs, hS =>
              have e0 : V 10 = a0 := hvs 0 (by decide)
              have e1 : V 11 = a1 := hvs 1 (by decide)
              have e2 : V 14 = a2 := hvs 2 (by decide)
              have HZ := Lib.hid hS
              simp only [puts, Act.put, List.setIfInBounds_toArray, List.set_cons_zero, List.set_cons_succ]
              clear hJ hvs hS
              have hfin : SlabOwn wZ g (heightsP R) (slabsR R) := by
                refine ⟨hv2, a1, ev, HZ.out.1, ownsRow_move HH8.out (fun k hk => HZ.out.2.keep k (own_lt HH8.out hk).2 (by have := (own_lt HH8.out hk).1; omega)), ?_, ?_⟩
                · have hx := HZ.out.2.o.base (base' := g + 1) HZ.out.2.glt
                  have hx2 : slabsR R = slabsK R m := by unfold slabsR; rw [HMM.out]; rfl
                  rw [hx2, offK_all, offK_succ, ← HOO.out, ← HFF.out, ← HFL0.out]
                  exact hx
                · have hx := HZ.out.2.e.base (base' := g + 1) HZ.out.2.glt
                  have hx2 : slabsR R = slabsK R m := by unfold slabsR; rw [HMM.out]; rfl
                  rw [hx2, ← HFF.out]
                  exact hx
              have HFIN := Lib.hid hfin
              have hf1 := HF1.out wZ HZ.out.2.below
              have hw1 : wZ.cell? ⟨w.heap.size + 1, 0, none⟩ = some (.int .i64 0) := cell_of_row _ _ _ _ _ _ hf1
              have hw2 : wZ.cell? ⟨w.heap.size + 1, 1, none⟩ = some (.int .i64 0) := cell_of_row _ _ _ _ _ _ hf1
              have hz1 : wZ.frozen? ⟨w.heap.size + 1, 0, none⟩ = false := frozen_of_row _ _ _ _ _ hf1
              have hz2 : wZ.frozen? ⟨w.heap.size + 1, 1, none⟩ = false := frozen_of_row _ _ _ _ _ hf1
              have HF1Z := Lib.hid hf1
              clear hfin hf1
              go_wp2_with fail
              have hp1 := heap_setCell_same _ _ 0 _ _ (.int .i64 0) HF1Z.out
              have hp2 := heap_setCell_same _ _ 1 _ _ (.int .i64 0) hp1
              refine bodyPost_ret (results_tf rfl rfl hp2) rfl ⟨?_, fun _ => ⟨g, rfl, ?_, ?_⟩, fun h => absurd rfl h⟩
              · have hb := H0.out.trans ((HB3.out.trans (HZ.out.2.below.mono (by have := HB3.out.size; have := HGS.out; omega))).mono H0.out.size)
                exact (hb.setCell (p := ⟨w.heap.size + 1, 0, none⟩) (by simp) _).setCell (p := ⟨w.heap.size + 1, 1, none⟩) (by simp) _
              · have := H0.out.size; have := HGS.out; omega
              · refine HFIN.out.move fun k hk hk2 => ?_
                have hb1 := heap_lt' HA1.out
                have hgs := HGS.out
                rw [Below.heap_setCell _ _ _ _ (by simp only; omega), Below.heap_setCell _ _ _ _ (by simp only; omega)]
  · have hzz : (f == 0) = false := by simp [hz]
    have hzz2 : (f != 0) = true := by simp [hz]
    have HNZ := Lib.hid hz
    clear hz
    go_enter Tryz.func52, Tryz.ntmps52
    go_wp2_with fail
    rw [← hW0]
    clear hW0 c0
    refine HCH.out.mono ?_
    rintro e w2 ⟨rfl, hb2⟩
    obtain ⟨W3, hW3⟩ : ∃ W, W = w2.alloc (.cells #[.int .i64 f, .int .i64 fa] 35) := ⟨_, rfl⟩
    have hb3 : Below W0.heap.size W0 W3 := by rw [hW3]; exact hb2.alloc hb2.size _
    have hf1 := (hb3.block _ (heap_lt' HA1.out)).trans HA1.out
    have hf4 : W3.heap[w2.heap.size]? = some (.cells #[.int .i64 f, .int .i64 fa] 35 (0, 0)) := by rw [hW3]; exact alloc_new _ _
    have hw1 : W3.cell? ⟨w.heap.size + 1, 0, none⟩ = some (.int .i64 0) := cell_of_row _ _ _ _ _ _ hf1
    have hw2 : W3.cell? ⟨w.heap.size + 1, 1, none⟩ = some (.int .i64 0) := cell_of_row _ _ _ _ _ _ hf1
    have hz1 : W3.frozen? ⟨w.heap.size + 1, 0, none⟩ = false := frozen_of_row _ _ _ _ _ hf1
    have hz2 : W3.frozen? ⟨w.heap.size + 1, 1, none⟩ = false := frozen_of_row _ _ _ _ _ hf1
    have k0 : W3.cell? ⟨w2.heap.size, 0, none⟩ = some (.int .i64 f) := cell_of_row _ _ _ _ _ _ hf4
    have k1 : W3.cell? ⟨w2.heap.size, 1, none⟩ = some (.int .i64 fa) := cell_of_row _ _ _ _ _ _ hf4
    have HF1Z := Lib.hid hf1
    have HB3 := Lib.hid (H0.out.trans (hb3.mono H0.out.size))
    clear hb2 hb3 hf1 hf4
    go_wp2_with fail
    rw [← hW3]
    clear hW3
    go_region
    all_goals
      go_wp2_with fail
      have hp1 := heap_setCell_same _ _ 0 _ _ (.int .i64 f) HF1Z.out
      have hp2 := heap_setCell_same _ _ 1 _ _ (.int .i64 fa) hp1
      refine bodyPost_ret (results_tf rfl rfl hp2) rfl ⟨?_, fun h => absurd h HNZ.out, fun _ => rfl⟩
      exact ((HB3.out.setCell (p := ⟨w.heap.size + 1, 0, none⟩) (by simp) _).setCell (p := ⟨w.heap.size + 1, 1, none⟩) (by simp) _).drew
end Go.Proofs.YtjiiikeniocmfaaGreat
