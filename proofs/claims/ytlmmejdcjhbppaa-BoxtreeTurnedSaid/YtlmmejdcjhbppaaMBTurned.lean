/- BoxtreeTurned (printed by mkturned12.py) -/
import Derived.Test.YtlmmejdcjhbppaaMBTurn3
import Derived.Test.YtlmmejdcjhbppaaMBKnown
import Derived.Test.YtlmmejdcjhbppaaMBDeep
import Derived.Test.YtlmmejdcjhbppaaMQPick
set_option linter.unusedSimpArgs false
set_option linter.unusedVariables false
namespace Go.Proofs.Ytlmmejdcjhbppaa
open Go.RowKit Go.Geo
attribute [local go_sem] Oper.semAt_some
theorem allI_of {A : List Int} {n : Nat} (hl : A.length = n) (h : ∀ j, j < n → A.getD j 0 = (j : Int)) : A = allI n :=
  eq_of_getDI (by rw [hl, allI_len]) fun i hi => by rw [h i (by omega), allI_getD (by omega)]
theorem OwnI.byB {w : World} {B hk n o : Nat} {v u : Value} {A : List Int} {f : Nat → Value} (h : OwnI w B v A) (k : w.rowIs hk 4 n f) : OwnI (w.setCell ⟨hk, o, none⟩ u) B v A := by
  refine ownsRow_move h fun j e => Below.heap_setCell _ _ _ _ (by
    show j ≠ hk
    intro e2
    subst e2
    obtain ⟨c, hc, _⟩ := k
    exact own_typed h hc (by decide) e)
theorem rowIs_lt {w : World} {hk n t : Nat} {f : Nat → Value} (k : w.rowIs hk t n f) : hk < w.heap.size := by
  obtain ⟨c, hc, _⟩ := k
  exact (Array.getElem?_eq_some_iff.1 hc).1
set_option maxRecDepth 100000 in
set_option maxHeartbeats 16000000 in
theorem BoxtreeTurned_any (ao : Option Addr) (n cap : Nat) (L : List Bx) (to : Option Addr) (nt tc : Nat) (T : List Int) (p : Pt) (w : World) (h : IsXB w ao n cap L) (ht : IsInts w to nt tc T) : Calls Try.prog 9 #[.slice ao n cap, .slice to nt tc, ptV p] w fun e w' => e = .returned (.bool true) ∧ Below w.heap.size w w' := by
  obtain ⟨hix, hin⟩ := h
  have hn := hix.1
  have hnc := hix.2.1
  have hcm : cap ≤ 9223372036854775807 := hix.2.2.1
  have htc := ht.2.1
  have htcm : tc ≤ 9223372036854775807 := ht.2.2.1
  obtain ⟨W0, hW0⟩ : ∃ W, W = w.alloc (.cells #[.int .i64 p.x, .int .i64 p.y] 31) := ⟨_, rfl⟩
  have hb0 : Below w.heap.size w W0 := by rw [hW0]; exact (Below.refl _ _).alloc (Nat.le_refl _) _
  have k0 : W0.heap[w.heap.size]? = some (.cells #[.int .i64 p.x, .int .i64 p.y] 31 (0, 0)) := by rw [hW0]; exact alloc_new _ _
  have HPC : Hid (∀ wX, Below W0.heap.size W0 wX → wX.cell? ⟨w.heap.size, 0, none⟩ = some (.int .i64 p.x) ∧ wX.cell? ⟨w.heap.size, 1, none⟩ = some (.int .i64 p.y)) := Lib.hid (fun wX hX => by
    have q0 := (hX.block _ (heap_lt2 k0)).trans k0
    exact ⟨cell_of_row _ _ _ _ _ _ q0, cell_of_row _ _ _ _ _ _ q0⟩)
  have HI := Lib.hid (hix.later hb0 (Nat.le_refl _))
  have HTT := Lib.hid (ht.later hb0 (Nat.le_refl _))
  have HB0 := Lib.hid hb0
  have HN := Lib.hid hn
  have HIN0 := Lib.hid hin
  clear hb0 k0 hix hn hin ht
  unfold ptV
  go_enter Try.func9, Try.ntmps9
  go_wp2_with fail
  rw [← hW0]
  clear hW0
  refine (BoxtreeKnown_any W0).mono ?_
  rintro e w1 ⟨rfl, hb1⟩
  have HB1 := Lib.hid hb1
  clear hb1
  by_cases h100 : 100 < n
  · have h5 : (100 : Int) < (n : Int) := by omega
    go_wp2_with fail
    go_ret
    exact ⟨rfl, HB0.out.trans (HB1.out.mono HB0.out.size)⟩
  by_cases h200 : 200 < nt
  · have h5 : ¬ (100 : Int) < (n : Int) := by omega
    have h6 : (200 : Int) < (nt : Int) := by omega
    go_wp2_with fail
    go_ret
    exact ⟨rfl, HB0.out.trans (HB1.out.mono HB0.out.size)⟩
  have h5 : ¬ (100 : Int) < (n : Int) := by omega
  have h6 : ¬ (200 : Int) < (nt : Int) := by omega
  have HI2 := Lib.hid (HI.out.later (HB1.out.trans (((Below.refl w1.heap.size w1).alloc (Nat.le_refl _) (Obj.cells #[] 33)).mono HB1.out.size)) (Nat.le_refl _))
  have HNL := Lib.hid (show ([] : List Bx).length + n ≤ 1000000000 by simp; omega)
  go_wp2_with (at_builtin; refine wpList_append_X rfl _ _ rfl w1.heap.size (.slice (some ⟨w1.heap.size, 0, none⟩) 0 0) [] rfl (OwnX.none_new w1 _ (Nat.le_refl _)) ao n cap L rfl HI2.out HNL.out (by simp) ?_
               intro v3 w3 hown3 hgr3 hfr3
               rw [List.nil_append] at hown3
               have hbl3 := below_grownX ((Below.refl _ _).alloc (Nat.le_refl _) _) (OwnX.none_new w1 _ (Nat.le_refl _)) hgr3 (by simp)
               obtain ⟨ai, ci, hv3, hix3⟩ := hown3.is
               rw [HN.out] at hv3 hix3
               subst hv3
               obtain ⟨W4, hmk, hio, hb4⟩ := make_I n (by omega) w3
               have HX4 := Lib.hid (hown3.later hb4)
               have HI4 := Lib.hid (hio.base hbl3.size)
               have HB4 := Lib.hid (hbl3.trans (hb4.mono hbl3.size))
               have HGA := Lib.hid hbl3.size
               have hcc3 := hix3.2.1
               have hcm3 : ci ≤ 9223372036854775807 := hix3.2.2.1
               clear hown3 hgr3 hfr3 hbl3 hix3 hio hb4)
  obtain ⟨B, hB⟩ : ∃ B, B = w1.heap.size := ⟨_, rfl⟩
  obtain ⟨ga, hga⟩ : ∃ g, g = w3.heap.size := ⟨_, rfl⟩
  rw [← hga]
  rw [← hga] at HGA HI4
  rw [← hB] at HX4 HI4 HB4 HGA
  clear hmk hga
  go_loopw [10] (fun iv wr => ∃ i : Nat, i ≤ n ∧ iv = .int .i64 i ∧ Hid (∃ A : List Int, A.length = n ∧ (∀ j, j < i → A.getD j 0 = (j : Int)) ∧ OwnX wr B (.slice ai n ci) L ∧ OwnI wr B (.slice (some ⟨ga, 0, none⟩) n n) A ∧ Below B w1 wr)) (fun iv _ => n - (intOf iv).toNat)
  case atStart => exact ⟨0, by omega, rfl, Lib.hid ⟨List.replicate n 0, List.length_replicate, fun j hj => absurd hj (by omega), HX4.out, HI4.out, HB4.out⟩⟩
  case round =>
    obtain ⟨i, hi, rfl, hst⟩ := hrel
    obtain ⟨A, hA, hAj, hAX, hAI, hAB⟩ := hst.out
    clear hst
    by_cases hlt : i < n
    · have hi5 : (i : Int) < (n : Int) := by omega
      have hi0 : (0 : Int) ≤ (i : Int) := by omega
      have hwi : IntKind.i64.wrap ((i : Int) + 1) = (i : Int) + 1 := IntWalk.i64_in _ (by omega)
      have ci := hAI.cellAt hA hlt
      have fi := hAI.froz i
      have HST := Lib.hid (And.intro hA (And.intro hAj (And.intro hAX (And.intro hAI hAB))))
      clear hA hAj hAX hAI hAB
      go_wp2_with fail
      go_roundw
      case rel =>
        obtain ⟨hA, hAj, hAX, hAI, hAB⟩ := HST.out
        have hai := hAI
        rw [← hA] at hai
        have hput := hai.put i (i : Int)
        rw [hA] at hput
        refine ⟨i + 1, by omega, by go_num, Lib.hid ⟨A.set i (i : Int), by rw [List.length_set, hA], fun j hj => ?_, hAX.byI hAI, hput, hAB.setCell (p := ⟨ga, i, none⟩) HGA.out _⟩⟩
        by_cases hji : j = i
        · subst hji
          rw [List.getD_eq_getElem?_getD, List.getElem?_set_self (by omega)]; rfl
        · rw [List.getD_eq_getElem?_getD, List.getElem?_set_ne (by omega), ← List.getD_eq_getElem?_getD]
          exact hAj j (by omega)
      case measure => simp [intOf]; omega
    · have hin2 : n = i := by omega
      subst hin2
      obtain rfl := allI_of hA hAj
      have HT0 := Lib.hid (TurnI.start L)
      rw [HN.out] at HT0
      have HST := Lib.hid (And.intro hAX (And.intro hAI hAB))
      clear hA hAj hAX hAI hAB
      go_wp2_with fail
      go_loopw [11] (fun iv wr => ∃ i : Nat, i ≤ nt ∧ iv = .int .i64 i ∧ Hid (∃ M A, TurnI L M A ∧ OwnX wr B (.slice ai n ci) M ∧ OwnI wr B (.slice (some ⟨ga, 0, none⟩) n n) A ∧ Below B w1 wr)) (fun iv _ => nt - (intOf iv).toNat)
      case atStart => exact ⟨0, by omega, rfl, Lib.hid ⟨L, _, HT0.out, HST.out.1, HST.out.2.1, HST.out.2.2⟩⟩
      case round =>
        obtain ⟨i, hi, rfl, hst⟩ := hrel
        obtain ⟨M, A, hTI, hMX, hMI, hMB⟩ := hst.out
        clear hst HST HT0
        by_cases hlt : i < nt
        · have hi5 : (i : Int) < (nt : Int) := by omega
          by_cases hz : 0 < n
          · have hz5 : (0 : Int) < (n : Int) := by omega
            have hwi : IntKind.i64.wrap ((i : Int) + 1) = (i : Int) + 1 := IntWalk.i64_in _ (by omega)
            obtain ⟨gm, hgm, hgmB, _⟩ := hMX.zero (by rw [hTI.len, HN.out]; exact hz)
            subst hgm
            have HR : Hid (TwoR w1 B gm n ci ga M A wr) := Lib.hid ⟨hMX, hMI, hTI.len.trans HN.out, hTI.alen.trans HN.out, hMB, hgmB, HGA.out⟩
            have HTI := Lib.hid hTI
            obtain ⟨bt, ot, hto, htat⟩ := HTT.out.2.2.2.1 (by omega)
            subst hto
            obtain ⟨x, hx⟩ : ∃ x, x = T.getD i 0 := ⟨_, rfl⟩
            obtain ⟨a, ha⟩ : ∃ a, a = i % n := ⟨_, rfl⟩
            have han : a < n := by rw [ha]; exact Nat.mod_lt _ hz
            have hmod : Int.tmod (i : Int) (n : Int) = (a : Int) := by rw [ha, Int.tmod_eq_emod_of_nonneg (by omega)]; exact (Int.natCast_emod i n).symm
            obtain ⟨b, hb⟩ : ∃ b : Nat, pickP x n = (b : Int) ∧ b < n := by
              have h1 : pickP x (n : Int) = x % (n : Int) := by unfold pickP; rw [if_neg (by omega)]
              have h2 := Int.emod_nonneg x (show (n : Int) ≠ 0 by omega)
              have h3 := Int.emod_lt_of_pos x hz5
              exact ⟨(x % (n : Int)).toNat, by rw [h1]; omega, by omega⟩
            have HPK : Hid (∀ wX, Below wr.heap.size wr wX → Calls Try.prog 27 #[.int .i64 x, .int .i64 (n : Int)] wX fun e w' => e = .returned (.int .i64 (b : Int)) ∧ wX = w') := Lib.hid (fun wX _ => by
              have := Pick_any x n wX (by omega)
              rw [hb.1] at this
              exact this)
            have HBR : Hid (Below W0.heap.size W0 wr) := Lib.hid (HB1.out.trans (by rw [hB] at hMB; exact hMB.mono HB1.out.size))
            have HTC : Hid (∀ wX, Below wr.heap.size wr wX → wX.cell? ⟨bt, ot + i, none⟩ = some (.int .i64 x)) := Lib.hid (fun wX hX => by
              have := htat i hlt
              rw [← hx] at this
              exact ((HBR.out.trans (hX.mono HBR.out.size)).cell (p := ⟨bt, ot + i, none⟩) (block_lt_of_cell this)).trans this)
            have HMOD := Lib.hid (And.intro hmod (And.intro (show (n : Int) ≠ 0 by omega) (IntWalk.i64_in (a : Int) (by omega))))
            have HIX := Lib.hid (And.intro hi5 (show (0 : Int) ≤ (i : Int) by omega))
            have HAB := Lib.hid (And.intro han hb.2)
            clear hTI hMX hMI hMB hgmB htat hx ha han hmod hb
            go_wp2_with fail
            have HOK : ∀ f ∈ ([] : List Fct), FctOk f := by
              intro f hf; cases hf
            refine wp_region_J (s := [(60, 0), (61, 1), (62, 2), (63, 3), (64, 4), (65, 5), (66, 6), (67, 7), (68, 8), (69, 9), (70, 10), (12, 11), (13, 12)]) (by kernel_rfl) (GrowJ wr (fun iX => match iX with | 0 => some (.int .i64 (i : Int)) | 1 => some (.slice (some ⟨gm, 0, none⟩) n ci) | 2 => some (.int .i64 (n : Int)) | 3 => some (.int .i64 (a : Int)) | 4 => some (.slice (some ⟨bt, ot, none⟩) nt tc) | 5 => some (.int .i64 (i : Int)) | 6 => some (.pointer (some ⟨bt, ot + i, none⟩)) | 7 => some (.int .i64 x) | 8 => some (.slice (some ⟨gm, 0, none⟩) n ci) | 9 => some (.int .i64 (n : Int)) | 10 => some (.int .i64 (b : Int)) | 11 => some (.int .i64 (a : Int)) | 12 => some (.int .i64 (b : Int)) | _ => none) []) (by kernel_rfl) (by kernel_rfl) (by kernel_rfl) (by kernel_rfl) (fun _ => undef) ?start13 ?step13 ?done13
            case start13 => exact GrowJ.start ((Below.refl _ _).drew)
            case step13 =>
              refine ⟨?o13_0, ?o13_1, ?o13_2, ?o13_3, ?o13_4, ?o13_5, ?o13_6, ?o13_7, ?o13_8, ?o13_9, ?o13_10, ?o13_11, ?o13_12, trivial⟩
              case o13_0 =>
                intro LX V aX wX K hl hp hcl hf hJ hK
                have t11 : aX.tmps[11]? = some (.int .i64 (i : Int)) := hf.old (by kernel_rfl) rfl
                rw [if_pos (by rfl)]
                go_simp
                exact hK _ _ (hJ.val HOK 0 _ (by kernel_rfl) rfl (Below.refl _ _))
              case o13_1 =>
                intro LX V aX wX K hl hp hcl hf hJ hK
                have t8 : aX.tmps[8]? = some (.slice (some ⟨gm, 0, none⟩) n ci) := hf.old (by kernel_rfl) rfl
                rw [if_pos (by rfl)]
                go_simp
                exact hK _ _ (hJ.val HOK 1 _ (by kernel_rfl) rfl (Below.refl _ _))
              case o13_2 =>
                intro LX V aX wX K hl hp hcl hf hJ hK
                have t61 := hf.in (i := 1) (d := 61) (by kernel_rfl) (hp 1 (by kernel_rfl)) (hJ.vals 1 _ rfl (hp 1 (by kernel_rfl)))
                rw [if_pos (by rfl)]
                go_simp
                exact hK _ _ (hJ.val HOK 2 _ (by kernel_rfl) rfl (Below.refl _ _))
              case o13_3 =>
                intro LX V aX wX K hl hp hcl hf hJ hK
                have t60 := hf.in (i := 0) (d := 60) (by kernel_rfl) (hp 0 (by kernel_rfl)) (hJ.vals 0 _ rfl (hp 0 (by kernel_rfl)))
                have t62 := hf.in (i := 2) (d := 62) (by kernel_rfl) (hp 2 (by kernel_rfl)) (hJ.vals 2 _ rfl (hp 2 (by kernel_rfl)))
                obtain ⟨hm1, hm2, hm3⟩ := HMOD.out
                have hm4 : ¬ n = 0 := by omega
                rw [if_pos (by rfl)]
                go_simp
                exact hK _ _ (hJ.val HOK 3 _ (by kernel_rfl) rfl (Below.refl _ _))
              case o13_4 =>
                intro LX V aX wX K hl hp hcl hf hJ hK
                have t1 : aX.tmps[1]? = some (.slice (some ⟨bt, ot, none⟩) nt tc) := hf.old (by kernel_rfl) rfl
                rw [if_pos (by rfl)]
                go_simp
                exact hK _ _ (hJ.val HOK 4 _ (by kernel_rfl) rfl (Below.refl _ _))
              case o13_5 =>
                intro LX V aX wX K hl hp hcl hf hJ hK
                have t11 : aX.tmps[11]? = some (.int .i64 (i : Int)) := hf.old (by kernel_rfl) rfl
                rw [if_pos (by rfl)]
                go_simp
                exact hK _ _ (hJ.val HOK 5 _ (by kernel_rfl) rfl (Below.refl _ _))
              case o13_6 =>
                intro LX V aX wX K hl hp hcl hf hJ hK
                have t64 := hf.in (i := 4) (d := 64) (by kernel_rfl) (hp 4 (by kernel_rfl)) (hJ.vals 4 _ rfl (hp 4 (by kernel_rfl)))
                have t65 := hf.in (i := 5) (d := 65) (by kernel_rfl) (hp 5 (by kernel_rfl)) (hJ.vals 5 _ rfl (hp 5 (by kernel_rfl)))
                obtain ⟨hi1, hi2⟩ := HIX.out
                rw [if_pos (by rfl)]
                go_simp
                exact hK _ _ (hJ.val HOK 6 _ (by kernel_rfl) rfl (Below.refl _ _))
              case o13_7 =>
                intro LX V aX wX K hl hp hcl hf hJ hK
                have t66 := hf.in (i := 6) (d := 66) (by kernel_rfl) (hp 6 (by kernel_rfl)) (hJ.vals 6 _ rfl (hp 6 (by kernel_rfl)))
                have cx := HTC.out wX hJ.below
                rw [if_pos (by rfl)]
                go_simp
                exact hK _ _ (hJ.val HOK 7 _ (by kernel_rfl) rfl (Below.refl _ _))
              case o13_8 =>
                intro LX V aX wX K hl hp hcl hf hJ hK
                have t8 : aX.tmps[8]? = some (.slice (some ⟨gm, 0, none⟩) n ci) := hf.old (by kernel_rfl) rfl
                rw [if_pos (by rfl)]
                go_simp
                exact hK _ _ (hJ.val HOK 8 _ (by kernel_rfl) rfl (Below.refl _ _))
              case o13_9 =>
                intro LX V aX wX K hl hp hcl hf hJ hK
                have t68 := hf.in (i := 8) (d := 68) (by kernel_rfl) (hp 8 (by kernel_rfl)) (hJ.vals 8 _ rfl (hp 8 (by kernel_rfl)))
                rw [if_pos (by rfl)]
                go_simp
                exact hK _ _ (hJ.val HOK 9 _ (by kernel_rfl) rfl (Below.refl _ _))
              case o13_10 =>
                intro LX V aX wX K hl hp hcl hf hJ hK
                have t67 := hf.in (i := 7) (d := 67) (by kernel_rfl) (hp 7 (by kernel_rfl)) (hJ.vals 7 _ rfl (hp 7 (by kernel_rfl)))
                have t69 := hf.in (i := 9) (d := 69) (by kernel_rfl) (hp 9 (by kernel_rfl)) (hJ.vals 9 _ rfl (hp 9 (by kernel_rfl)))
                rw [if_pos (by rfl)]
                go_simp
                refine (HPK.out _ hJ.below).mono ?_
                rintro e wA ⟨rfl, rfl⟩
                exact hK _ _ (hJ.val HOK 10 _ (by kernel_rfl) rfl (Below.refl _ _))
              case o13_11 =>
                intro LX V aX wX K hl hp hcl hf hJ hK
                have t63 := hf.in (i := 3) (d := 63) (by kernel_rfl) (hp 3 (by kernel_rfl)) (hJ.vals 3 _ rfl (hp 3 (by kernel_rfl)))
                rw [if_pos (by rfl)]
                go_simp
                exact hK _ _ (hJ.val HOK 11 _ (by kernel_rfl) rfl (Below.refl _ _))
              case o13_12 =>
                intro LX V aX wX K hl hp hcl hf hJ hK
                have t70 := hf.in (i := 10) (d := 70) (by kernel_rfl) (hp 10 (by kernel_rfl)) (hJ.vals 10 _ rfl (hp 10 (by kernel_rfl)))
                rw [if_pos (by rfl)]
                go_simp
                exact hK _ _ (hJ.val HOK 12 _ (by kernel_rfl) rfl (Below.refl _ _))
            intro V wZ hJ
            have hv1 := hJ.vals 11 _ rfl (by kernel_rfl)
            have hv2 := hJ.vals 12 _ rfl (by kernel_rfl)
            have HBZ := Lib.hid hJ.below
            simp only [puts, Act.put, List.setIfInBounds_toArray, List.set_cons_zero, List.set_cons_succ]
            rw [hv1, hv2]
            clear hJ HOK hv1 hv2
            have HRZ := Lib.hid (HR.out.later HBZ.out (by have := HR.out.bel.size; omega))
            have HSZ : Hid (B ≤ wZ.heap.size) := Lib.hid (by have := HRZ.out.bel.size; omega)
            have HABI := Lib.hid (And.intro (show (a : Int) < (n : Int) by have := HAB.out; omega) (show (b : Int) < (n : Int) by have := HAB.out; omega))
            go_wp2_with fail
            refine wp_region_J (s := [(71, 0), (72, 1), (73, 2), (74, 3), (75, 4), (76, 5), (77, 6), (78, 7), (79, 8), (80, 9), (81, 10), (82, 11), (83, 12), (84, 14)]) (by kernel_rfl) (ChainJ (fun iX => match iX with | 0 => some (.slice (some ⟨gm, 0, none⟩) n ci) | 1 => some (.int .i64 (a : Int)) | 2 => some (.slice (some ⟨gm, 0, none⟩) n ci) | 3 => some (.int .i64 (b : Int)) | 4 => some (.slice (some ⟨gm, 0, none⟩) n ci) | 5 => some (.int .i64 (b : Int)) | 6 => some (.pointer (some ⟨gm, b * 4, none⟩)) | 7 => some (.agg #[.int .i64 (M.getD b bx0).1.x, .int .i64 (M.getD b bx0).1.y, .int .i64 (M.getD b bx0).2.x, .int .i64 (M.getD b bx0).2.y]) | 8 => some (.slice (some ⟨gm, 0, none⟩) n ci) | 9 => some (.int .i64 (a : Int)) | 10 => some (.pointer (some ⟨gm, a * 4, none⟩)) | 11 => some (.agg #[.int .i64 (M.getD a bx0).1.x, .int .i64 (M.getD a bx0).1.y, .int .i64 (M.getD a bx0).2.x, .int .i64 (M.getD a bx0).2.y]) | 12 => some (.pointer (some ⟨gm, a * 4, none⟩)) | 14 => some (.pointer (some ⟨gm, b * 4, none⟩)) | _ => none) [13, 15] (SwX w1 B gm n ci ga M A a b)) (by kernel_rfl) (by kernel_rfl) (by kernel_rfl) (by kernel_rfl) (fun _ => undef) ?start14 ?step14 ?done14
            case start14 => exact ChainJ.start (HRZ.out.later ((Below.refl _ _).drew) HSZ.out)
            case step14 =>
              refine ⟨?o14_0, ?o14_1, ?o14_2, ?o14_3, ?o14_4, ?o14_5, ?o14_6, ?o14_7, ?o14_8, ?o14_9, ?o14_10, ?o14_11, ?o14_12, ?o14_13, ?o14_14, ?o14_15, trivial⟩
              case o14_0 =>
                intro LX V aX wX K hl hp hcl hf hJ hK
                have t8 : aX.tmps[8]? = some (.slice (some ⟨gm, 0, none⟩) n ci) := hf.old (by kernel_rfl) rfl
                rw [if_pos (by rfl)]
                go_simp
                exact hK _ _ (hJ.val 0 _ (by kernel_rfl) rfl (fun _ h => h))
              case o14_1 =>
                intro LX V aX wX K hl hp hcl hf hJ hK
                have t12 : aX.tmps[12]? = some (.int .i64 (a : Int)) := hf.old (by kernel_rfl) rfl
                rw [if_pos (by rfl)]
                go_simp
                exact hK _ _ (hJ.val 1 _ (by kernel_rfl) rfl (fun _ h => h))
              case o14_2 =>
                intro LX V aX wX K hl hp hcl hf hJ hK
                have t8 : aX.tmps[8]? = some (.slice (some ⟨gm, 0, none⟩) n ci) := hf.old (by kernel_rfl) rfl
                rw [if_pos (by rfl)]
                go_simp
                exact hK _ _ (hJ.val 2 _ (by kernel_rfl) rfl (fun _ h => h))
              case o14_3 =>
                intro LX V aX wX K hl hp hcl hf hJ hK
                have t13 : aX.tmps[13]? = some (.int .i64 (b : Int)) := hf.old (by kernel_rfl) rfl
                rw [if_pos (by rfl)]
                go_simp
                exact hK _ _ (hJ.val 3 _ (by kernel_rfl) rfl (fun _ h => h))
              case o14_4 =>
                intro LX V aX wX K hl hp hcl hf hJ hK
                have t8 : aX.tmps[8]? = some (.slice (some ⟨gm, 0, none⟩) n ci) := hf.old (by kernel_rfl) rfl
                rw [if_pos (by rfl)]
                go_simp
                exact hK _ _ (hJ.val 4 _ (by kernel_rfl) rfl (fun _ h => h))
              case o14_5 =>
                intro LX V aX wX K hl hp hcl hf hJ hK
                have t13 : aX.tmps[13]? = some (.int .i64 (b : Int)) := hf.old (by kernel_rfl) rfl
                rw [if_pos (by rfl)]
                go_simp
                exact hK _ _ (hJ.val 5 _ (by kernel_rfl) rfl (fun _ h => h))
              case o14_6 =>
                intro LX V aX wX K hl hp hcl hf hJ hK
                have t75 := hf.in (i := 4) (d := 75) (by kernel_rfl) (hp 4 (by kernel_rfl)) (hJ.vals 4 _ rfl (hp 4 (by kernel_rfl)))
                have t76 := hf.in (i := 5) (d := 76) (by kernel_rfl) (hp 5 (by kernel_rfl)) (hJ.vals 5 _ rfl (hp 5 (by kernel_rfl)))
                obtain ⟨hab1, hab2⟩ := HABI.out
                rw [if_pos (by rfl)]
                go_simp
                exact hK _ _ (hJ.val 6 _ (by kernel_rfl) rfl (fun _ h => h))
              case o14_7 =>
                intro LX V aX wX K hl hp hcl hf hJ hK
                have t77 := hf.in (i := 6) (d := 77) (by kernel_rfl) (hp 6 (by kernel_rfl)) (hJ.vals 6 _ rfl (hp 6 (by kernel_rfl)))
                obtain ⟨vs, hlen, hS⟩ := hJ.upto 0 (by decide) (hcl.no 13 (by kernel_rfl) hl)
                have hS0 : TwoR w1 B gm n ci ga M A wX := by
                  match vs, hlen, hS with
                  | [], _, hS => exact hS
                obtain ⟨y0, y1, y2, y3⟩ := hS0.x.cellAt hS0.ml HAB.out.2
                rw [if_pos (by rfl)]
                go_simp
                exact hK _ _ (hJ.val 7 _ (by kernel_rfl) rfl (fun _ h => h))
              case o14_8 =>
                intro LX V aX wX K hl hp hcl hf hJ hK
                have t8 : aX.tmps[8]? = some (.slice (some ⟨gm, 0, none⟩) n ci) := hf.old (by kernel_rfl) rfl
                rw [if_pos (by rfl)]
                go_simp
                exact hK _ _ (hJ.val 8 _ (by kernel_rfl) rfl (fun _ h => h))
              case o14_9 =>
                intro LX V aX wX K hl hp hcl hf hJ hK
                have t12 : aX.tmps[12]? = some (.int .i64 (a : Int)) := hf.old (by kernel_rfl) rfl
                rw [if_pos (by rfl)]
                go_simp
                exact hK _ _ (hJ.val 9 _ (by kernel_rfl) rfl (fun _ h => h))
              case o14_10 =>
                intro LX V aX wX K hl hp hcl hf hJ hK
                have t79 := hf.in (i := 8) (d := 79) (by kernel_rfl) (hp 8 (by kernel_rfl)) (hJ.vals 8 _ rfl (hp 8 (by kernel_rfl)))
                have t80 := hf.in (i := 9) (d := 80) (by kernel_rfl) (hp 9 (by kernel_rfl)) (hJ.vals 9 _ rfl (hp 9 (by kernel_rfl)))
                obtain ⟨hab1, hab2⟩ := HABI.out
                rw [if_pos (by rfl)]
                go_simp
                exact hK _ _ (hJ.val 10 _ (by kernel_rfl) rfl (fun _ h => h))
              case o14_11 =>
                intro LX V aX wX K hl hp hcl hf hJ hK
                have t81 := hf.in (i := 10) (d := 81) (by kernel_rfl) (hp 10 (by kernel_rfl)) (hJ.vals 10 _ rfl (hp 10 (by kernel_rfl)))
                obtain ⟨vs, hlen, hS⟩ := hJ.upto 0 (by decide) (hcl.no 13 (by kernel_rfl) hl)
                have hS0 : TwoR w1 B gm n ci ga M A wX := by
                  match vs, hlen, hS with
                  | [], _, hS => exact hS
                obtain ⟨y0, y1, y2, y3⟩ := hS0.x.cellAt hS0.ml HAB.out.1
                rw [if_pos (by rfl)]
                go_simp
                exact hK _ _ (hJ.val 11 _ (by kernel_rfl) rfl (fun _ h => h))
              case o14_12 =>
                intro LX V aX wX K hl hp hcl hf hJ hK
                have t71 := hf.in (i := 0) (d := 71) (by kernel_rfl) (hp 0 (by kernel_rfl)) (hJ.vals 0 _ rfl (hp 0 (by kernel_rfl)))
                have t72 := hf.in (i := 1) (d := 72) (by kernel_rfl) (hp 1 (by kernel_rfl)) (hJ.vals 1 _ rfl (hp 1 (by kernel_rfl)))
                obtain ⟨hab1, hab2⟩ := HABI.out
                rw [if_pos (by rfl)]
                go_simp
                exact hK _ _ (hJ.val 12 _ (by kernel_rfl) rfl (fun _ h => h))
              case o14_13 =>
                intro LX V aX wX K hl hp hcl hf hJ hK
                have t83 := hf.in (i := 12) (d := 83) (by kernel_rfl) (hp 12 (by kernel_rfl)) (hJ.vals 12 _ rfl (hp 12 (by kernel_rfl)))
                have t78 := hf.in (i := 7) (d := 78) (by kernel_rfl) (hp 7 (by kernel_rfl)) (hJ.vals 7 _ rfl (hp 7 (by kernel_rfl)))
                rw [if_pos (by rfl)]
                obtain ⟨vs, hlen, hvs, hS, hn⟩ := hJ.next (by kernel_rfl) 0 (by kernel_rfl) hl (.inl rfl) rfl
                match vs, hlen, hvs, hS, hn with
                | [], _, hvs, hS, hn =>
                  have hS0 : TwoR w1 B gm n ci ga M A wX := hS
                  obtain ⟨y0, y1, y2, y3⟩ := hS0.x.cellAt hS0.ml HAB.out.1
                  have f0 := hS0.x.froz (a * 4)
                  have f1 := hS0.x.froz (a * 4 + 1)
                  have f2 := hS0.x.froz (a * 4 + 2)
                  have f3 := hS0.x.froz (a * 4 + 3)
                  go_simp
                  exact hK undef _ (hn undef _ (hS0.putX HAB.out.1 (M.getD b bx0)))
              case o14_14 =>
                intro LX V aX wX K hl hp hcl hf hJ hK
                have t73 := hf.in (i := 2) (d := 73) (by kernel_rfl) (hp 2 (by kernel_rfl)) (hJ.vals 2 _ rfl (hp 2 (by kernel_rfl)))
                have t74 := hf.in (i := 3) (d := 74) (by kernel_rfl) (hp 3 (by kernel_rfl)) (hJ.vals 3 _ rfl (hp 3 (by kernel_rfl)))
                obtain ⟨hab1, hab2⟩ := HABI.out
                rw [if_pos (by rfl)]
                go_simp
                exact hK _ _ (hJ.val 14 _ (by kernel_rfl) rfl (fun _ h => h))
              case o14_15 =>
                intro LX V aX wX K hl hp hcl hf hJ hK
                have t84 := hf.in (i := 14) (d := 84) (by kernel_rfl) (hp 14 (by kernel_rfl)) (hJ.vals 14 _ rfl (hp 14 (by kernel_rfl)))
                have t82 := hf.in (i := 11) (d := 82) (by kernel_rfl) (hp 11 (by kernel_rfl)) (hJ.vals 11 _ rfl (hp 11 (by kernel_rfl)))
                rw [if_pos (by rfl)]
                obtain ⟨vs, hlen, hvs, hS, hn⟩ := hJ.next (by kernel_rfl) 1 (by kernel_rfl) hl (.inr (hp 13 (by kernel_rfl))) rfl
                match vs, hlen, hvs, hS, hn with
                | [a0], _, hvs, hS, hn =>
                  have e0 : V 13 = a0 := hvs 0 (by decide)
                  have hS0 : TwoR w1 B gm n ci ga (M.set a (M.getD b bx0)) A wX := hS
                  obtain ⟨y0, y1, y2, y3⟩ := hS0.x.cellAt hS0.ml HAB.out.2
                  have f0 := hS0.x.froz (b * 4)
                  have f1 := hS0.x.froz (b * 4 + 1)
                  have f2 := hS0.x.froz (b * 4 + 2)
                  have f3 := hS0.x.froz (b * 4 + 3)
                  go_simp
                  exact hK undef _ (hn undef _ (hS0.putX HAB.out.2 (M.getD a bx0)))
            intro V wZ hJ
            obtain ⟨vs, hlen, hvs, hS⟩ := hJ.all (by kernel_rfl)
            match vs, hlen, hvs, hS with
            | [a0, a1], _, hvs, hS =>
              have e0 : V 13 = a0 := hvs 0 (by decide)
              have e1 : V 15 = a1 := hvs 1 (by decide)
              have HR2 : Hid (TwoR w1 B gm n ci ga ((M.set a (M.getD b bx0)).set b (M.getD a bx0)) A wZ) := Lib.hid hS
              simp only [puts, Act.put, List.setIfInBounds_toArray, List.set_cons_zero, List.set_cons_succ]
              clear hJ hvs hS
              obtain ⟨M2, hM2⟩ : ∃ M2, M2 = (M.set a (M.getD b bx0)).set b (M.getD a bx0) := ⟨_, rfl⟩
              rw [← hM2] at HR2
              have HM2 := Lib.hid hM2
              have HSZ2 : Hid (B ≤ wZ.heap.size) := Lib.hid (by have := HR2.out.bel.size; omega)
              clear hM2
              go_wp2_with fail
              refine wp_region_J (s := [(85, 0), (86, 1), (87, 2), (88, 3), (89, 4), (90, 5), (91, 6), (92, 7), (93, 8), (94, 9), (95, 10), (96, 11), (97, 12), (98, 14)]) (by kernel_rfl) (ChainJ (fun iX => match iX with | 0 => some (.slice (some ⟨ga, 0, none⟩) n n) | 1 => some (.int .i64 (a : Int)) | 2 => some (.slice (some ⟨ga, 0, none⟩) n n) | 3 => some (.int .i64 (b : Int)) | 4 => some (.slice (some ⟨ga, 0, none⟩) n n) | 5 => some (.int .i64 (b : Int)) | 6 => some (.pointer (some ⟨ga, b, none⟩)) | 7 => some (.int .i64 (A.getD b 0)) | 8 => some (.slice (some ⟨ga, 0, none⟩) n n) | 9 => some (.int .i64 (a : Int)) | 10 => some (.pointer (some ⟨ga, a, none⟩)) | 11 => some (.int .i64 (A.getD a 0)) | 12 => some (.pointer (some ⟨ga, a, none⟩)) | 14 => some (.pointer (some ⟨ga, b, none⟩)) | _ => none) [13, 15] (SwI w1 B gm n ci ga M2 A a b)) (by kernel_rfl) (by kernel_rfl) (by kernel_rfl) (by kernel_rfl) (fun _ => undef) ?start15 ?step15 ?done15
              case start15 => exact ChainJ.start (HR2.out.later ((Below.refl _ _).drew) HSZ2.out)
              case step15 =>
                refine ⟨?o15_0, ?o15_1, ?o15_2, ?o15_3, ?o15_4, ?o15_5, ?o15_6, ?o15_7, ?o15_8, ?o15_9, ?o15_10, ?o15_11, ?o15_12, ?o15_13, ?o15_14, ?o15_15, trivial⟩
                case o15_0 =>
                  intro LX V aX wX K hl hp hcl hf hJ hK
                  have t9 : aX.tmps[9]? = some (.slice (some ⟨ga, 0, none⟩) n n) := hf.old (by kernel_rfl) rfl
                  rw [if_pos (by rfl)]
                  go_simp
                  exact hK _ _ (hJ.val 0 _ (by kernel_rfl) rfl (fun _ h => h))
                case o15_1 =>
                  intro LX V aX wX K hl hp hcl hf hJ hK
                  have t12 : aX.tmps[12]? = some (.int .i64 (a : Int)) := hf.old (by kernel_rfl) rfl
                  rw [if_pos (by rfl)]
                  go_simp
                  exact hK _ _ (hJ.val 1 _ (by kernel_rfl) rfl (fun _ h => h))
                case o15_2 =>
                  intro LX V aX wX K hl hp hcl hf hJ hK
                  have t9 : aX.tmps[9]? = some (.slice (some ⟨ga, 0, none⟩) n n) := hf.old (by kernel_rfl) rfl
                  rw [if_pos (by rfl)]
                  go_simp
                  exact hK _ _ (hJ.val 2 _ (by kernel_rfl) rfl (fun _ h => h))
                case o15_3 =>
                  intro LX V aX wX K hl hp hcl hf hJ hK
                  have t13 : aX.tmps[13]? = some (.int .i64 (b : Int)) := hf.old (by kernel_rfl) rfl
                  rw [if_pos (by rfl)]
                  go_simp
                  exact hK _ _ (hJ.val 3 _ (by kernel_rfl) rfl (fun _ h => h))
                case o15_4 =>
                  intro LX V aX wX K hl hp hcl hf hJ hK
                  have t9 : aX.tmps[9]? = some (.slice (some ⟨ga, 0, none⟩) n n) := hf.old (by kernel_rfl) rfl
                  rw [if_pos (by rfl)]
                  go_simp
                  exact hK _ _ (hJ.val 4 _ (by kernel_rfl) rfl (fun _ h => h))
                case o15_5 =>
                  intro LX V aX wX K hl hp hcl hf hJ hK
                  have t13 : aX.tmps[13]? = some (.int .i64 (b : Int)) := hf.old (by kernel_rfl) rfl
                  rw [if_pos (by rfl)]
                  go_simp
                  exact hK _ _ (hJ.val 5 _ (by kernel_rfl) rfl (fun _ h => h))
                case o15_6 =>
                  intro LX V aX wX K hl hp hcl hf hJ hK
                  have t89 := hf.in (i := 4) (d := 89) (by kernel_rfl) (hp 4 (by kernel_rfl)) (hJ.vals 4 _ rfl (hp 4 (by kernel_rfl)))
                  have t90 := hf.in (i := 5) (d := 90) (by kernel_rfl) (hp 5 (by kernel_rfl)) (hJ.vals 5 _ rfl (hp 5 (by kernel_rfl)))
                  obtain ⟨hab1, hab2⟩ := HABI.out
                  rw [if_pos (by rfl)]
                  go_simp
                  exact hK _ _ (hJ.val 6 _ (by kernel_rfl) rfl (fun _ h => h))
                case o15_7 =>
                  intro LX V aX wX K hl hp hcl hf hJ hK
                  have t91 := hf.in (i := 6) (d := 91) (by kernel_rfl) (hp 6 (by kernel_rfl)) (hJ.vals 6 _ rfl (hp 6 (by kernel_rfl)))
                  obtain ⟨vs, hlen, hS⟩ := hJ.upto 0 (by decide) (hcl.no 13 (by kernel_rfl) hl)
                  have hS0 : TwoR w1 B gm n ci ga M2 A wX := by
                    match vs, hlen, hS with
                    | [], _, hS => exact hS
                  have y0 := hS0.i.cellAt hS0.al HAB.out.2
                  rw [if_pos (by rfl)]
                  go_simp
                  exact hK _ _ (hJ.val 7 _ (by kernel_rfl) rfl (fun _ h => h))
                case o15_8 =>
                  intro LX V aX wX K hl hp hcl hf hJ hK
                  have t9 : aX.tmps[9]? = some (.slice (some ⟨ga, 0, none⟩) n n) := hf.old (by kernel_rfl) rfl
                  rw [if_pos (by rfl)]
                  go_simp
                  exact hK _ _ (hJ.val 8 _ (by kernel_rfl) rfl (fun _ h => h))
                case o15_9 =>
                  intro LX V aX wX K hl hp hcl hf hJ hK
                  have t12 : aX.tmps[12]? = some (.int .i64 (a : Int)) := hf.old (by kernel_rfl) rfl
                  rw [if_pos (by rfl)]
                  go_simp
                  exact hK _ _ (hJ.val 9 _ (by kernel_rfl) rfl (fun _ h => h))
                case o15_10 =>
                  intro LX V aX wX K hl hp hcl hf hJ hK
                  have t93 := hf.in (i := 8) (d := 93) (by kernel_rfl) (hp 8 (by kernel_rfl)) (hJ.vals 8 _ rfl (hp 8 (by kernel_rfl)))
                  have t94 := hf.in (i := 9) (d := 94) (by kernel_rfl) (hp 9 (by kernel_rfl)) (hJ.vals 9 _ rfl (hp 9 (by kernel_rfl)))
                  obtain ⟨hab1, hab2⟩ := HABI.out
                  rw [if_pos (by rfl)]
                  go_simp
                  exact hK _ _ (hJ.val 10 _ (by kernel_rfl) rfl (fun _ h => h))
                case o15_11 =>
                  intro LX V aX wX K hl hp hcl hf hJ hK
                  have t95 := hf.in (i := 10) (d := 95) (by kernel_rfl) (hp 10 (by kernel_rfl)) (hJ.vals 10 _ rfl (hp 10 (by kernel_rfl)))
                  obtain ⟨vs, hlen, hS⟩ := hJ.upto 0 (by decide) (hcl.no 13 (by kernel_rfl) hl)
                  have hS0 : TwoR w1 B gm n ci ga M2 A wX := by
                    match vs, hlen, hS with
                    | [], _, hS => exact hS
                  have y0 := hS0.i.cellAt hS0.al HAB.out.1
                  rw [if_pos (by rfl)]
                  go_simp
                  exact hK _ _ (hJ.val 11 _ (by kernel_rfl) rfl (fun _ h => h))
                case o15_12 =>
                  intro LX V aX wX K hl hp hcl hf hJ hK
                  have t85 := hf.in (i := 0) (d := 85) (by kernel_rfl) (hp 0 (by kernel_rfl)) (hJ.vals 0 _ rfl (hp 0 (by kernel_rfl)))
                  have t86 := hf.in (i := 1) (d := 86) (by kernel_rfl) (hp 1 (by kernel_rfl)) (hJ.vals 1 _ rfl (hp 1 (by kernel_rfl)))
                  obtain ⟨hab1, hab2⟩ := HABI.out
                  rw [if_pos (by rfl)]
                  go_simp
                  exact hK _ _ (hJ.val 12 _ (by kernel_rfl) rfl (fun _ h => h))
                case o15_13 =>
                  intro LX V aX wX K hl hp hcl hf hJ hK
                  have t97 := hf.in (i := 12) (d := 97) (by kernel_rfl) (hp 12 (by kernel_rfl)) (hJ.vals 12 _ rfl (hp 12 (by kernel_rfl)))
                  have t92 := hf.in (i := 7) (d := 92) (by kernel_rfl) (hp 7 (by kernel_rfl)) (hJ.vals 7 _ rfl (hp 7 (by kernel_rfl)))
                  rw [if_pos (by rfl)]
                  obtain ⟨vs, hlen, hvs, hS, hn⟩ := hJ.next (by kernel_rfl) 0 (by kernel_rfl) hl (.inl rfl) rfl
                  match vs, hlen, hvs, hS, hn with
                  | [], _, hvs, hS, hn =>
                    have hS0 : TwoR w1 B gm n ci ga M2 A wX := hS
                    have y0 := hS0.i.cellAt hS0.al HAB.out.1
                    have f0 := hS0.i.froz a
                    go_simp
                    exact hK undef _ (hn undef _ (hS0.putI a (A.getD b 0)))
                case o15_14 =>
                  intro LX V aX wX K hl hp hcl hf hJ hK
                  have t87 := hf.in (i := 2) (d := 87) (by kernel_rfl) (hp 2 (by kernel_rfl)) (hJ.vals 2 _ rfl (hp 2 (by kernel_rfl)))
                  have t88 := hf.in (i := 3) (d := 88) (by kernel_rfl) (hp 3 (by kernel_rfl)) (hJ.vals 3 _ rfl (hp 3 (by kernel_rfl)))
                  obtain ⟨hab1, hab2⟩ := HABI.out
                  rw [if_pos (by rfl)]
                  go_simp
                  exact hK _ _ (hJ.val 14 _ (by kernel_rfl) rfl (fun _ h => h))
                case o15_15 =>
                  intro LX V aX wX K hl hp hcl hf hJ hK
                  have t98 := hf.in (i := 14) (d := 98) (by kernel_rfl) (hp 14 (by kernel_rfl)) (hJ.vals 14 _ rfl (hp 14 (by kernel_rfl)))
                  have t96 := hf.in (i := 11) (d := 96) (by kernel_rfl) (hp 11 (by kernel_rfl)) (hJ.vals 11 _ rfl (hp 11 (by kernel_rfl)))
                  rw [if_pos (by rfl)]
                  obtain ⟨vs, hlen, hvs, hS, hn⟩ := hJ.next (by kernel_rfl) 1 (by kernel_rfl) hl (.inr (hp 13 (by kernel_rfl))) rfl
                  match vs, hlen, hvs, hS, hn with
                  | [a0], _, hvs, hS, hn =>
                    have e0 : V 13 = a0 := hvs 0 (by decide)
                    have hS0 : TwoR w1 B gm n ci ga M2 (A.set a (A.getD b 0)) wX := hS
                    have y0 := hS0.i.cellAt hS0.al HAB.out.2
                    have f0 := hS0.i.froz b
                    go_simp
                    exact hK undef _ (hn undef _ (hS0.putI b (A.getD a 0)))
              intro V wZ hJ
              obtain ⟨vs, hlen, hvs, hS⟩ := hJ.all (by kernel_rfl)
              match vs, hlen, hvs, hS with
              | [a0, a1], _, hvs, hS =>
                have e0 : V 13 = a0 := hvs 0 (by decide)
                have e1 : V 15 = a1 := hvs 1 (by decide)
                have HR3 : Hid (TwoR w1 B gm n ci ga M2 ((A.set a (A.getD b 0)).set b (A.getD a 0)) wZ) := Lib.hid hS
                simp only [puts, Act.put, List.setIfInBounds_toArray, List.set_cons_zero, List.set_cons_succ]
                clear hJ hvs hS
                go_wp2_with fail
                go_roundw
                case rel => exact ⟨i + 1, by omega, by go_num, Lib.hid ⟨M2, _, by rw [HM2.out]; exact HTI.out.swap (by rw [HN.out]; exact HAB.out.1) (by rw [HN.out]; exact HAB.out.2), HR3.out.x, HR3.out.i, HR3.out.bel⟩⟩
                case measure => simp [intOf]; omega
          · have hz5 : ¬ (0 : Int) < (n : Int) := by omega
            have HTI := Lib.hid hTI
            have HMX := Lib.hid hMX
            have HMI := Lib.hid hMI
            have HBW : Hid (Below W0.heap.size W0 wr) := Lib.hid (HB1.out.trans (by rw [hB] at hMB; exact hMB.mono HB1.out.size))
            have hinM : InB M := by
              intro b hb
              obtain ⟨j, hj, rfl⟩ := List.mem_iff_getElem.1 hb
              have hjL : j < L.length := by rw [← hTI.len]; exact hj
              have h1 := hTI.eq j hjL
              rw [List.getD_eq_getElem?_getD, List.getElem?_eq_getElem hj] at h1
              have h2 := allI_mem.1 (hTI.perm.subset (show A.getD j 0 ∈ A by rw [List.getD_eq_getElem?_getD, List.getElem?_eq_getElem (by rw [hTI.alen]; exact hjL)]; exact List.getElem_mem _))
              have h3 : M[j] = L[(A.getD j 0).toNat]'(by omega) := by
                have : M[j] = bxI L (A.getD j 0) := h1
                rw [this]; unfold bxI
                rw [List.getD_eq_getElem?_getD, List.getElem?_eq_getElem (by omega)]; rfl
              rw [h3]
              exact HIN0.out _ (List.getElem_mem _)
            have HINM := Lib.hid hinM
            have HU := Lib.hid (BuildT_any ao n cap L wr (HI.out.later HBW.out (Nat.le_refl _)) HIN0.out)
            clear hTI hMX hMI hMB hinM
            go_wp2_with fail
            refine HU.out.mono ?_
            rintro e w5 ⟨_, hok, hb5⟩
            obtain ⟨g, rfl, _, ht5⟩ := hok (by rw [HN.out]; omega)
            have HB5 := Lib.hid (HBW.out.trans (hb5.mono HBW.out.size))
            have HT5 := Lib.hid ht5
            have HMX5 := Lib.hid (HMX.out.later hb5)
            have HMI5 := Lib.hid (HMI.out.later hb5)
            obtain ⟨ai2, ci2, hv, hixM⟩ := HMX5.out.is
            rw [HTI.out.len, HN.out] at hv hixM
            cases hv
            have HU2 := Lib.hid (BuildT_any ai n ci M w5 hixM HINM.out)
            clear hz hz5
            clear hok hb5 ht5 hixM
            go_wp2_with fail
            refine HU2.out.mono ?_
            rintro e w6 ⟨_, hok, hb6⟩
            obtain ⟨u, rfl, _, ht6⟩ := hok (by rw [HTI.out.len, HN.out]; omega)
            have HB6 := Lib.hid (HB5.out.trans (hb6.mono HB5.out.size))
            have HTL := Lib.hid (HT5.out.later hb6)
            have HTM := Lib.hid ht6
            have HMI6 := Lib.hid (HMI5.out.later hb6)
            have hmk := make_bools n (by omega) w6
            clear hok hb6 ht6
            obtain ⟨W7, hW7⟩ : ∃ W, W = w6.alloc (.cells (madeCells #[.bool false] n) 4) := ⟨_, rfl⟩
            obtain ⟨hk, hhk⟩ : ∃ h, h = w6.heap.size := ⟨_, rfl⟩
            have hrow7 : W7.rowIs hk 4 n (fun _ => .bool false) := by rw [hW7, hhk]; exact World.rowIs_made _ _ _ _
            have hb7 : Below w6.heap.size w6 W7 := by rw [hW7]; exact (Below.refl _ _).alloc (Nat.le_refl _) _
            have HHK : Hid (hk < W7.heap.size) := Lib.hid (by rw [hW7, hhk]; simp)
            have HHKW : Hid (W0.heap.size ≤ hk) := Lib.hid (by rw [hhk]; exact HB6.out.size)
            have HB7 := Lib.hid (HB6.out.trans (hb7.mono HB6.out.size))
            have HMI7 := Lib.hid (HMI6.out.later hb7)
            have HROW := Lib.hid hrow7
            obtain ⟨X, hX⟩ : ∃ X, X = askB (atQ p) L := ⟨_, rfl⟩
            obtain ⟨Y, hY⟩ : ∃ Y, Y = askB (atQ p) M := ⟨_, rfl⟩
            obtain ⟨m, hm⟩ : ∃ m, m = X.length := ⟨_, rfl⟩
            have hmY : Y.length = m := by rw [hm, hX, hY]; exact HTI.out.count _
            have HXL := Lib.hid hm.symm
            have HYL := Lib.hid hmY
            have HAX : Hid (∀ wX, Below W7.heap.size W7 wX → Calls Try.prog 13 #[.pointer (some ⟨g, 0, none⟩), .agg #[.int .i64 p.x, .int .i64 p.y]] wX fun e w' => ∃ v, e = .returned v ∧ OwnI w' wX.heap.size v X ∧ Below wX.heap.size wX w') := Lib.hid (fun wX hq => by
              have := At_any g L p wX ((HTL.out.later hb7).later hq)
              unfold ptV AskR at this
              rw [← hX] at this
              exact this)
            have HAY : Hid (∀ wX, Below W7.heap.size W7 wX → Calls Try.prog 13 #[.pointer (some ⟨u, 0, none⟩), .agg #[.int .i64 p.x, .int .i64 p.y]] wX fun e w' => ∃ v, e = .returned v ∧ OwnI w' wX.heap.size v Y ∧ Below wX.heap.size wX w') := Lib.hid (fun wX hq => by
              have := At_any u M p wX ((HTM.out.later hb7).later hq)
              unfold ptV AskR at this
              rw [← hY] at this
              exact this)
            have HPC7 : Hid (∀ wX, Below W7.heap.size W7 wX → wX.cell? ⟨w.heap.size, 0, none⟩ = some (.int .i64 p.x) ∧ wX.cell? ⟨w.heap.size, 1, none⟩ = some (.int .i64 p.y)) := Lib.hid (fun wX hq => HPC.out wX (HB7.out.trans (hq.mono HB7.out.size)))
            have HXY := Lib.hid (And.intro hX hY)
            clear hrow7 hX hY hm hmY
            go_wp2_with fail
            rw [← hW7, ← hhk]
            clear hW7 hhk hmk
            have HOK : ∀ f ∈ ([⟨2, fun v w => ∃ x z, v = .slice x m z ∧ IsInts w x m z X ∧ ∀ b, v.ownBlock = some b → hk < b⟩, ⟨5, fun v w => ∃ x z, v = .slice x m z ∧ IsInts w x m z Y ∧ ∀ b, v.ownBlock = some b → hk < b⟩, ⟨6, fun v w => ∃ x z, v = .slice x m z ∧ IsInts w x m z X ∧ ∀ b, v.ownBlock = some b → hk < b⟩, ⟨7, fun v w => ∃ x z, v = .slice x m z ∧ IsInts w x m z Y ∧ ∀ b, v.ownBlock = some b → hk < b⟩] : List Fct), FctOk f := by
              intro f hf
              simp only [List.mem_cons, List.not_mem_nil, or_false] at hf
              rcases hf with rfl | rfl | rfl | rfl
              · exact fun v w w' ⟨x, z, h1, h2, h3⟩ hb => ⟨x, z, h1, h2.later hb (Nat.le_refl _), h3⟩
              · exact fun v w w' ⟨x, z, h1, h2, h3⟩ hb => ⟨x, z, h1, h2.later hb (Nat.le_refl _), h3⟩
              · exact fun v w w' ⟨x, z, h1, h2, h3⟩ hb => ⟨x, z, h1, h2.later hb (Nat.le_refl _), h3⟩
              · exact fun v w w' ⟨x, z, h1, h2, h3⟩ hb => ⟨x, z, h1, h2.later hb (Nat.le_refl _), h3⟩
            refine wp_region_J (s := [(126, 0), (127, 1), (128, 2), (129, 3), (130, 4), (131, 5), (19, 6), (20, 7)]) (by kernel_rfl) (GrowJ W7 (fun iX => match iX with | 0 => some (.pointer (some ⟨g, 0, none⟩)) | 1 => some (.agg #[.int .i64 p.x, .int .i64 p.y]) | 3 => some (.pointer (some ⟨u, 0, none⟩)) | 4 => some (.agg #[.int .i64 p.x, .int .i64 p.y]) | _ => none) [⟨2, fun v w => ∃ x z, v = .slice x m z ∧ IsInts w x m z X ∧ ∀ b, v.ownBlock = some b → hk < b⟩, ⟨5, fun v w => ∃ x z, v = .slice x m z ∧ IsInts w x m z Y ∧ ∀ b, v.ownBlock = some b → hk < b⟩, ⟨6, fun v w => ∃ x z, v = .slice x m z ∧ IsInts w x m z X ∧ ∀ b, v.ownBlock = some b → hk < b⟩, ⟨7, fun v w => ∃ x z, v = .slice x m z ∧ IsInts w x m z Y ∧ ∀ b, v.ownBlock = some b → hk < b⟩]) (by kernel_rfl) (by kernel_rfl) (by kernel_rfl) (by kernel_rfl) (fun _ => undef) ?start21q ?step21q ?done21q
            case start21q => exact GrowJ.start ((Below.refl _ _).drew)
            case step21q =>
              refine ⟨?o21q_0, ?o21q_1, ?o21q_2, ?o21q_3, ?o21q_4, ?o21q_5, ?o21q_6, ?o21q_7, trivial⟩
              case o21q_0 =>
                intro LX V aX wX K hl hp hcl hf hJ hK
                have t14 : aX.tmps[14]? = some (.pointer (some ⟨g, 0, none⟩)) := hf.old (by kernel_rfl) rfl
                rw [if_pos (by rfl)]
                go_simp
                exact hK _ _ (hJ.val HOK 0 _ (by kernel_rfl) rfl (Below.refl _ _))
              case o21q_1 =>
                intro LX V aX wX K hl hp hcl hf hJ hK
                have t5 : aX.tmps[5]? = some (.pointer (some ⟨w.heap.size, 0, none⟩)) := hf.old (by kernel_rfl) rfl
                obtain ⟨c0, c1⟩ := HPC7.out wX hJ.below
                rw [if_pos (by rfl)]
                go_simp
                exact hK _ _ (hJ.val HOK 1 _ (by kernel_rfl) rfl (Below.refl _ _))
              case o21q_2 =>
                intro LX V aX wX K hl hp hcl hf hJ hK
                have t126 := hf.in (i := 0) (d := 126) (by kernel_rfl) (hp 0 (by kernel_rfl)) (hJ.vals 0 _ rfl (hp 0 (by kernel_rfl)))
                have t127 := hf.in (i := 1) (d := 127) (by kernel_rfl) (hp 1 (by kernel_rfl)) (hJ.vals 1 _ rfl (hp 1 (by kernel_rfl)))
                rw [if_pos (by rfl)]
                go_simp
                refine (HAX.out _ hJ.below).mono ?_
                rintro e wA ⟨v, rfl, ho, hbA⟩
                obtain ⟨a, c, hv, hi⟩ := ho.ints
                rw [HXL.out] at hv hi
                exact hK _ _ (hJ.step HOK 2 _ trivial (hbA) (by
                  intro f hf hfi
                  simp only [List.mem_cons, List.not_mem_nil, or_false] at hf
                  rcases hf with rfl | rfl | rfl | rfl
                  · exact ⟨a, c, hv, hi, fun b hb => Nat.lt_of_lt_of_le HHK.out (Nat.le_trans hJ.below.size (ho.lt b hb).1)⟩
                  · exact absurd (show (5 : Nat) = 2 from hfi) (by decide)
                  · exact absurd (show (6 : Nat) = 2 from hfi) (by decide)
                  · exact absurd (show (7 : Nat) = 2 from hfi) (by decide)
                  ))
              case o21q_3 =>
                intro LX V aX wX K hl hp hcl hf hJ hK
                have t16 : aX.tmps[16]? = some (.pointer (some ⟨u, 0, none⟩)) := hf.old (by kernel_rfl) rfl
                rw [if_pos (by rfl)]
                go_simp
                exact hK _ _ (hJ.val HOK 3 _ (by kernel_rfl) rfl (Below.refl _ _))
              case o21q_4 =>
                intro LX V aX wX K hl hp hcl hf hJ hK
                have t5 : aX.tmps[5]? = some (.pointer (some ⟨w.heap.size, 0, none⟩)) := hf.old (by kernel_rfl) rfl
                obtain ⟨c0, c1⟩ := HPC7.out wX hJ.below
                rw [if_pos (by rfl)]
                go_simp
                exact hK _ _ (hJ.val HOK 4 _ (by kernel_rfl) rfl (Below.refl _ _))
              case o21q_5 =>
                intro LX V aX wX K hl hp hcl hf hJ hK
                have t129 := hf.in (i := 3) (d := 129) (by kernel_rfl) (hp 3 (by kernel_rfl)) (hJ.vals 3 _ rfl (hp 3 (by kernel_rfl)))
                have t130 := hf.in (i := 4) (d := 130) (by kernel_rfl) (hp 4 (by kernel_rfl)) (hJ.vals 4 _ rfl (hp 4 (by kernel_rfl)))
                rw [if_pos (by rfl)]
                go_simp
                refine (HAY.out _ hJ.below).mono ?_
                rintro e wA ⟨v, rfl, ho, hbA⟩
                obtain ⟨a, c, hv, hi⟩ := ho.ints
                rw [HYL.out] at hv hi
                exact hK _ _ (hJ.step HOK 5 _ trivial (hbA) (by
                  intro f hf hfi
                  simp only [List.mem_cons, List.not_mem_nil, or_false] at hf
                  rcases hf with rfl | rfl | rfl | rfl
                  · exact absurd (show (2 : Nat) = 5 from hfi) (by decide)
                  · exact ⟨a, c, hv, hi, fun b hb => Nat.lt_of_lt_of_le HHK.out (Nat.le_trans hJ.below.size (ho.lt b hb).1)⟩
                  · exact absurd (show (6 : Nat) = 5 from hfi) (by decide)
                  · exact absurd (show (7 : Nat) = 5 from hfi) (by decide)
                  ))
              case o21q_6 =>
                intro LX V aX wX K hl hp hcl hf hJ hK
                have t128 := hf.in (i := 2) (d := 128) (by kernel_rfl) (hp 2 (by kernel_rfl)) rfl
                have q0 := hJ.facts ⟨2, fun v w => ∃ x z, v = .slice x m z ∧ IsInts w x m z X ∧ ∀ b, v.ownBlock = some b → hk < b⟩ (List.mem_of_getElem? (i := 0) rfl) (hp 2 (by kernel_rfl))
                obtain ⟨x1, z1, hv1, hi1, hb1⟩ := q0
                rw [hv1] at t128 hb1
                rw [if_pos (by rfl)]
                go_simp
                exact hK _ _ (hJ.step HOK 6 _ trivial (Below.refl _ _) (by
                  intro f hf hfi
                  simp only [List.mem_cons, List.not_mem_nil, or_false] at hf
                  rcases hf with rfl | rfl | rfl | rfl
                  · exact absurd (show (2 : Nat) = 6 from hfi) (by decide)
                  · exact absurd (show (5 : Nat) = 6 from hfi) (by decide)
                  · exact ⟨x1, z1, rfl, hi1, hb1⟩
                  · exact absurd (show (7 : Nat) = 6 from hfi) (by decide)
                  ))
              case o21q_7 =>
                intro LX V aX wX K hl hp hcl hf hJ hK
                have t131 := hf.in (i := 5) (d := 131) (by kernel_rfl) (hp 5 (by kernel_rfl)) rfl
                have q0 := hJ.facts ⟨5, fun v w => ∃ x z, v = .slice x m z ∧ IsInts w x m z Y ∧ ∀ b, v.ownBlock = some b → hk < b⟩ (List.mem_of_getElem? (i := 1) rfl) (hp 5 (by kernel_rfl))
                obtain ⟨x1, z1, hv1, hi1, hb1⟩ := q0
                rw [hv1] at t131 hb1
                rw [if_pos (by rfl)]
                go_simp
                exact hK _ _ (hJ.step HOK 7 _ trivial (Below.refl _ _) (by
                  intro f hf hfi
                  simp only [List.mem_cons, List.not_mem_nil, or_false] at hf
                  rcases hf with rfl | rfl | rfl | rfl
                  · exact absurd (show (2 : Nat) = 7 from hfi) (by decide)
                  · exact absurd (show (5 : Nat) = 7 from hfi) (by decide)
                  · exact absurd (show (6 : Nat) = 7 from hfi) (by decide)
                  · exact ⟨x1, z1, rfl, hi1, hb1⟩
                  ))
            intro V wZ hJ
            have fx := hJ.facts ⟨6, fun v w => ∃ x z, v = .slice x m z ∧ IsInts w x m z X ∧ ∀ b, v.ownBlock = some b → hk < b⟩ (List.mem_of_getElem? (i := 2) rfl) (by kernel_rfl)
            have fy := hJ.facts ⟨7, fun v w => ∃ x z, v = .slice x m z ∧ IsInts w x m z Y ∧ ∀ b, v.ownBlock = some b → hk < b⟩ (List.mem_of_getElem? (i := 3) rfl) (by kernel_rfl)
            have HBZ := Lib.hid hJ.below
            simp only [puts, Act.put, List.setIfInBounds_toArray, List.set_cons_zero, List.set_cons_succ]
            clear hJ HOK
            obtain ⟨xa, xz, hvx, hix, hbx⟩ := fx
            obtain ⟨ya, yz, hvy, hiy, hby⟩ := fy
            rw [hvx, hvy]
            rw [hvx] at hbx
            rw [hvy] at hby
            have HBX : Hid (∀ b off, xa = some ⟨b, off, none⟩ → b ≠ hk) := Lib.hid (fun b off e => by have := hbx b (by rw [e]; rfl); omega)
            have HBY : Hid (∀ b off, ya = some ⟨b, off, none⟩ → b ≠ hk) := Lib.hid (fun b off e => by have := hby b (by rw [e]; rfl); omega)
            have HS8 : Hid (IsInts wZ xa m xz X ∧ IsInts wZ ya m yz Y ∧ OwnI wZ B (.slice (some ⟨ga, 0, none⟩) n n) A ∧ wZ.rowIs hk 4 n (fun j => .bool (marked A Y 0 j)) ∧ Below W0.heap.size W0 wZ) := Lib.hid ⟨hix, hiy, HMI7.out.later HBZ.out, (HROW.out.of_block (HBZ.out.block _ HHK.out)).congr (fun j _ => by rw [marked_zero]), HB7.out.trans (HBZ.out.mono HB7.out.size)⟩
            have hmz := hiy.2.1
            have hyz : yz ≤ 9223372036854775807 := hiy.2.2.1
            have hmz2 := hix.2.1
            have hxz : xz ≤ 9223372036854775807 := hix.2.2.1
            clear hvx hvy hix hiy hbx hby
            have HKW : Hid (W0.heap.size ≤ hk) := Lib.hid HHKW.out
            go_wp2_with fail
            go_loopw [21] (fun iv wr => ∃ k : Nat, k ≤ m ∧ iv = .int .i64 k ∧ Hid (IsInts wr xa m xz X ∧ IsInts wr ya m yz Y ∧ OwnI wr B (.slice (some ⟨ga, 0, none⟩) n n) A ∧ wr.rowIs hk 4 n (fun j => .bool (marked A Y k j)) ∧ Below W0.heap.size W0 wr)) (fun iv _ => m - (intOf iv).toNat)
            case atStart => exact ⟨0, by omega, rfl, HS8⟩
            case round =>
              obtain ⟨k, hkm, rfl, hst⟩ := hrel
              have HST := hst
              clear hst
              by_cases hlt2 : k < m
              · have hi5 : (k : Int) < (m : Int) := by omega
                have hi0 : (0 : Int) ≤ (k : Int) := by omega
                have hwi : IntKind.i64.wrap ((k : Int) + 1) = (k : Int) + 1 := IntWalk.i64_in _ (by omega)
                obtain ⟨y, hy, hyn⟩ : ∃ y : Nat, Y.getD k 0 = (y : Int) ∧ y < n := by
                  have := askB_at (q := atQ p) (M := M) (k := k) (by rw [← HXY.out.2, HYL.out]; exact hlt2)
                  rw [← HXY.out.2, HTI.out.len, HN.out] at this
                  exact this
                obtain ⟨j, hj, hjn⟩ : ∃ j : Nat, A.getD y 0 = (j : Int) ∧ j < n := by
                  have := HTI.out.place (y := y) (by rw [HN.out]; exact hyn)
                  rw [HN.out] at this
                  exact this
                obtain ⟨yb, yo, hya, cY⟩ := HST.out.2.1.at hlt2
                have hat := (HST.out.2.1.2.2.2.1 (by omega))
                subst hya
                rw [hy] at cY
                have HYJ := Lib.hid (And.intro hy hj)
                have HYK : Hid (∀ wX, Below wr.heap.size wr wX → wX.cell? ⟨yb, yo + k, none⟩ = some (.int .i64 (y : Int))) := Lib.hid (fun wX hX => (hX.cell (p := ⟨yb, yo + k, none⟩) (block_lt_of_cell cY)).trans cY)
                have HYN : Hid ((k : Int) < (m : Int) ∧ (0 : Int) ≤ (k : Int) ∧ ¬ ((y : Int) < 0) ∧ ¬ ((n : Int) ≤ (y : Int))) := Lib.hid ⟨hi5, hi0, by omega, by omega⟩
                have hone : ∀ wX, wr = wX → wX.cell? ⟨yb, yo + k, none⟩ = some (.int .i64 (y : Int)) := fun wX e => e ▸ cY
                have HKJ := Lib.hid hone
                by_cases hk0 : 0 < k
                · obtain ⟨k1, hk1⟩ : ∃ k1 : Nat, k = k1 + 1 := ⟨k - 1, by omega⟩
                  obtain ⟨z, hz, hzn⟩ : ∃ z : Nat, Y.getD k1 0 = (z : Int) ∧ z < n := by
                    have := askB_at (q := atQ p) (M := M) (k := k1) (by rw [← HXY.out.2, HYL.out]; omega)
                    rw [← HXY.out.2, HTI.out.len, HN.out] at this
                    exact this
                  have hzy : z < y := by
                    have := askB_rise (q := atQ p) (M := M) (k := k1) (by rw [← HXY.out.2, HYL.out]; omega)
                    rw [← HXY.out.2, ← hk1, hy, hz] at this
                    omega
                  have HZK : Hid (∀ wX, Below wr.heap.size wr wX → wX.cell? ⟨yb, yo + k1, none⟩ = some (.int .i64 (z : Int))) := Lib.hid (fun wX hX => by
                    obtain ⟨b2, o2, e2, hc2⟩ := hat
                    cases e2
                    have := hc2 k1 (by omega)
                    rw [hz] at this
                    exact (hX.cell (p := ⟨yb, yo + k1, none⟩) (block_lt_of_cell this)).trans this)
                  have HYN2 : Hid (((k1 : Int) < (m : Int) ∧ (0 : Int) ≤ (k1 : Int)) ∧ ((0 : Int) < (k : Int)) ∧ IntKind.i64.wrap ((k : Int) - 1) = (k1 : Int) ∧ ¬ ((y : Int) ≤ (z : Int))) := Lib.hid ⟨by omega, by omega, by rw [IntWalk.i64_in _ (by omega)]; omega, by omega⟩
                  have HIX2 := Lib.hid (And.intro hi5 (And.intro hi0 (And.intro hwi (And.intro hlt2 (And.intro hyn hjn)))))
                  clear hy hj cY hone hat hk1 hz hzn hzy hk0 hyn hjn hkm
                  go_wp2_with fail
                  clear hi5 hi0 hwi hlt2
                  have HOK : ∀ f ∈ ([] : List Fct), FctOk f := by
                    intro f hf; cases hf
                  refine wp_region_J (s := [(138, 0), (139, 1), (140, 2), (141, 3), (142, 4), (143, 5), (144, 6), (145, 7), (146, 8), (147, 9), (148, 10), (149, 11), (150, 12), (151, 13), (152, 14), (153, 15), (154, 16), (155, 17), (156, 18), (157, 19), (158, 20), (159, 21), (160, 22), (161, 23), (162, 24), (163, 25), (164, 26), (165, 27), (166, 28), (167, 29)]) (by kernel_rfl) (GrowJ wr (fun iX => match iX with | 0 => some (.slice (some ⟨yb, yo, none⟩) m yz) | 1 => some (.int .i64 (k : Int)) | 2 => some (.pointer (some ⟨yb, yo + k, none⟩)) | 3 => some (.int .i64 (y : Int)) | 4 => some (.bool false) | 5 => some (.bool false) | 6 => some (.slice (some ⟨yb, yo, none⟩) m yz) | 7 => some (.int .i64 (k : Int)) | 8 => some (.pointer (some ⟨yb, yo + k, none⟩)) | 9 => some (.int .i64 (y : Int)) | 10 => some (.slice ai n ci) | 11 => some (.int .i64 (n : Int)) | 12 => some (.bool false) | 13 => some (.bool false) | 14 => some (.bool false) | 15 => some (.int .i64 (k : Int)) | 16 => some (.bool true) | 17 => some (.bool true) | 18 => some (.slice (some ⟨yb, yo, none⟩) m yz) | 19 => some (.int .i64 (k : Int)) | 20 => some (.pointer (some ⟨yb, yo + k, none⟩)) | 21 => some (.int .i64 (y : Int)) | 22 => some (.slice (some ⟨yb, yo, none⟩) m yz) | 23 => some (.int .i64 (k : Int)) | 24 => some (.int .i64 (k1 : Int)) | 25 => some (.pointer (some ⟨yb, yo + k1, none⟩)) | 26 => some (.int .i64 (z : Int)) | 27 => some (.bool false) | 28 => some (.bool false) | 29 => some (.bool false) | _ => none) []) (by kernel_rfl) (by kernel_rfl) (by kernel_rfl) (by kernel_rfl) (fun _ => undef) ?start25aq ?step25aq ?done25aq
                  case start25aq => exact GrowJ.start ((Below.refl _ _).drew)
                  case step25aq =>
                    refine ⟨?o25aq_0, ?o25aq_1, ?o25aq_2, ?o25aq_3, ?o25aq_4, ?o25aq_5, ?o25aq_6, ?o25aq_7, ?o25aq_8, ?o25aq_9, ?o25aq_10, ?o25aq_11, ?o25aq_12, ?o25aq_13, ?o25aq_14, ?o25aq_15, ?o25aq_16, ?o25aq_17, ?o25aq_18, ?o25aq_19, ?o25aq_20, ?o25aq_21, ?o25aq_22, ?o25aq_23, ?o25aq_24, ?o25aq_25, ?o25aq_26, ?o25aq_27, ?o25aq_28, ?o25aq_29, trivial⟩
                    case o25aq_0 =>
                      intro LX V aX wX K hl hp hcl hf hJ hK
                      have t20 : aX.tmps[20]? = some (.slice (some ⟨yb, yo, none⟩) m yz) := hf.old (by kernel_rfl) rfl
                      rw [if_pos (by rfl)]
                      go_simp
                      exact hK _ _ (hJ.val HOK 0 _ (by kernel_rfl) rfl (Below.refl _ _))
                    case o25aq_1 =>
                      intro LX V aX wX K hl hp hcl hf hJ hK
                      have t21 : aX.tmps[21]? = some (.int .i64 (k : Int)) := hf.old (by kernel_rfl) rfl
                      rw [if_pos (by rfl)]
                      go_simp
                      exact hK _ _ (hJ.val HOK 1 _ (by kernel_rfl) rfl (Below.refl _ _))
                    case o25aq_2 =>
                      intro LX V aX wX K hl hp hcl hf hJ hK
                      have t138 := hf.in (i := 0) (d := 138) (by kernel_rfl) (hp 0 (by kernel_rfl)) (hJ.vals 0 _ rfl (hp 0 (by kernel_rfl)))
                      have t139 := hf.in (i := 1) (d := 139) (by kernel_rfl) (hp 1 (by kernel_rfl)) (hJ.vals 1 _ rfl (hp 1 (by kernel_rfl)))
                      obtain ⟨y5, y0, y1, y2⟩ := HYN.out
                      rw [if_pos (by rfl)]
                      go_simp
                      exact hK _ _ (hJ.val HOK 2 _ (by kernel_rfl) rfl (Below.refl _ _))
                    case o25aq_3 =>
                      intro LX V aX wX K hl hp hcl hf hJ hK
                      have t140 := hf.in (i := 2) (d := 140) (by kernel_rfl) (hp 2 (by kernel_rfl)) (hJ.vals 2 _ rfl (hp 2 (by kernel_rfl)))
                      have cy := HYK.out wX hJ.below
                      rw [if_pos (by rfl)]
                      go_simp
                      exact hK _ _ (hJ.val HOK 3 _ (by kernel_rfl) rfl (Below.refl _ _))
                    case o25aq_4 =>
                      intro LX V aX wX K hl hp hcl hf hJ hK
                      have t141 := hf.in (i := 3) (d := 141) (by kernel_rfl) (hp 3 (by kernel_rfl)) (hJ.vals 3 _ rfl (hp 3 (by kernel_rfl)))
                      obtain ⟨y5, y0, y1, y2⟩ := HYN.out
                      rw [if_pos (by rfl)]
                      go_simp
                      exact hK _ _ (hJ.val HOK 4 _ (by kernel_rfl) rfl (Below.refl _ _))
                    case o25aq_5 =>
                      intro LX V aX wX K hl hp hcl hf hJ hK
                      have t142 := hf.in (i := 4) (d := 142) (by kernel_rfl) (hp 4 (by kernel_rfl)) (hJ.vals 4 _ rfl (hp 4 (by kernel_rfl)))
                      rw [if_pos (by rfl)]
                      go_simp
                      exact hK _ _ (hJ.val HOK 5 _ (by kernel_rfl) rfl (Below.refl _ _))
                    case o25aq_6 =>
                      intro LX V aX wX K hl hp hcl hf hJ hK
                      have t20 : aX.tmps[20]? = some (.slice (some ⟨yb, yo, none⟩) m yz) := hf.old (by kernel_rfl) rfl
                      have t143 := hf.in (i := 5) (d := 143) (by kernel_rfl) (hp 5 (by kernel_rfl)) (hJ.vals 5 _ rfl (hp 5 (by kernel_rfl)))
                      rw [if_pos (wanted_of rfl rfl t143)]
                      go_simp
                      exact hK _ _ (hJ.val HOK 6 _ (by kernel_rfl) rfl (Below.refl _ _))
                    case o25aq_7 =>
                      intro LX V aX wX K hl hp hcl hf hJ hK
                      have t21 : aX.tmps[21]? = some (.int .i64 (k : Int)) := hf.old (by kernel_rfl) rfl
                      have t143 := hf.in (i := 5) (d := 143) (by kernel_rfl) (hp 5 (by kernel_rfl)) (hJ.vals 5 _ rfl (hp 5 (by kernel_rfl)))
                      rw [if_pos (wanted_of rfl rfl t143)]
                      go_simp
                      exact hK _ _ (hJ.val HOK 7 _ (by kernel_rfl) rfl (Below.refl _ _))
                    case o25aq_8 =>
                      intro LX V aX wX K hl hp hcl hf hJ hK
                      have t144 := hf.in (i := 6) (d := 144) (by kernel_rfl) (hp 6 (by kernel_rfl)) (hJ.vals 6 _ rfl (hp 6 (by kernel_rfl)))
                      have t145 := hf.in (i := 7) (d := 145) (by kernel_rfl) (hp 7 (by kernel_rfl)) (hJ.vals 7 _ rfl (hp 7 (by kernel_rfl)))
                      have t143 := hf.in (i := 5) (d := 143) (by kernel_rfl) (hp 5 (by kernel_rfl)) (hJ.vals 5 _ rfl (hp 5 (by kernel_rfl)))
                      obtain ⟨y5, y0, y1, y2⟩ := HYN.out
                      rw [if_pos (wanted_of rfl rfl t143)]
                      go_simp
                      exact hK _ _ (hJ.val HOK 8 _ (by kernel_rfl) rfl (Below.refl _ _))
                    case o25aq_9 =>
                      intro LX V aX wX K hl hp hcl hf hJ hK
                      have t146 := hf.in (i := 8) (d := 146) (by kernel_rfl) (hp 8 (by kernel_rfl)) (hJ.vals 8 _ rfl (hp 8 (by kernel_rfl)))
                      have t143 := hf.in (i := 5) (d := 143) (by kernel_rfl) (hp 5 (by kernel_rfl)) (hJ.vals 5 _ rfl (hp 5 (by kernel_rfl)))
                      have cy := HYK.out wX hJ.below
                      rw [if_pos (wanted_of rfl rfl t143)]
                      go_simp
                      exact hK _ _ (hJ.val HOK 9 _ (by kernel_rfl) rfl (Below.refl _ _))
                    case o25aq_10 =>
                      intro LX V aX wX K hl hp hcl hf hJ hK
                      have t8 : aX.tmps[8]? = some (.slice ai n ci) := hf.old (by kernel_rfl) rfl
                      have t143 := hf.in (i := 5) (d := 143) (by kernel_rfl) (hp 5 (by kernel_rfl)) (hJ.vals 5 _ rfl (hp 5 (by kernel_rfl)))
                      rw [if_pos (wanted_of rfl rfl t143)]
                      go_simp
                      exact hK _ _ (hJ.val HOK 10 _ (by kernel_rfl) rfl (Below.refl _ _))
                    case o25aq_11 =>
                      intro LX V aX wX K hl hp hcl hf hJ hK
                      have t148 := hf.in (i := 10) (d := 148) (by kernel_rfl) (hp 10 (by kernel_rfl)) (hJ.vals 10 _ rfl (hp 10 (by kernel_rfl)))
                      have t143 := hf.in (i := 5) (d := 143) (by kernel_rfl) (hp 5 (by kernel_rfl)) (hJ.vals 5 _ rfl (hp 5 (by kernel_rfl)))
                      rw [if_pos (wanted_of rfl rfl t143)]
                      go_simp
                      exact hK _ _ (hJ.val HOK 11 _ (by kernel_rfl) rfl (Below.refl _ _))
                    case o25aq_12 =>
                      intro LX V aX wX K hl hp hcl hf hJ hK
                      have t147 := hf.in (i := 9) (d := 147) (by kernel_rfl) (hp 9 (by kernel_rfl)) (hJ.vals 9 _ rfl (hp 9 (by kernel_rfl)))
                      have t149 := hf.in (i := 11) (d := 149) (by kernel_rfl) (hp 11 (by kernel_rfl)) (hJ.vals 11 _ rfl (hp 11 (by kernel_rfl)))
                      have t143 := hf.in (i := 5) (d := 143) (by kernel_rfl) (hp 5 (by kernel_rfl)) (hJ.vals 5 _ rfl (hp 5 (by kernel_rfl)))
                      obtain ⟨y5, y0, y1, y2⟩ := HYN.out
                      have q1 : decide ((n : Int) ≤ (y : Int)) = false := by simp; omega
                      have q2 : decide (n ≤ y) = false := by simp; omega
                      clear y2
                      rw [if_pos (wanted_of rfl rfl t143)]
                      go_simp
                      exact hK _ _ (hJ.val HOK 12 _ (by kernel_rfl) rfl (Below.refl _ _))
                    case o25aq_13 =>
                      intro LX V aX wX K hl hp hcl hf hJ hK
                      have t143 := hf.in (i := 5) (d := 143) (by kernel_rfl) (hp 5 (by kernel_rfl)) (hJ.vals 5 _ rfl (hp 5 (by kernel_rfl)))
                      have t150 := hf.in (i := 12) (d := 150) (by kernel_rfl) (hp 12 (by kernel_rfl)) (hJ.vals 12 _ rfl (hp 12 (by kernel_rfl)))
                      rw [if_pos (by rfl)]
                      go_simp
                      exact hK _ _ (hJ.val HOK 13 _ (by kernel_rfl) rfl (Below.refl _ _))
                    case o25aq_14 =>
                      intro LX V aX wX K hl hp hcl hf hJ hK
                      have t151 := hf.in (i := 13) (d := 151) (by kernel_rfl) (hp 13 (by kernel_rfl)) (hJ.vals 13 _ rfl (hp 13 (by kernel_rfl)))
                      rw [if_pos (by rfl)]
                      go_simp
                      exact hK _ _ (hJ.val HOK 14 _ (by kernel_rfl) rfl (Below.refl _ _))
                    case o25aq_15 =>
                      intro LX V aX wX K hl hp hcl hf hJ hK
                      have t21 : aX.tmps[21]? = some (.int .i64 (k : Int)) := hf.old (by kernel_rfl) rfl
                      have t152 := hf.in (i := 14) (d := 152) (by kernel_rfl) (hp 14 (by kernel_rfl)) (hJ.vals 14 _ rfl (hp 14 (by kernel_rfl)))
                      rw [if_pos (wanted_of rfl rfl t152)]
                      go_simp
                      exact hK _ _ (hJ.val HOK 15 _ (by kernel_rfl) rfl (Below.refl _ _))
                    case o25aq_16 =>
                      intro LX V aX wX K hl hp hcl hf hJ hK
                      have t153 := hf.in (i := 15) (d := 153) (by kernel_rfl) (hp 15 (by kernel_rfl)) (hJ.vals 15 _ rfl (hp 15 (by kernel_rfl)))
                      have t152 := hf.in (i := 14) (d := 152) (by kernel_rfl) (hp 14 (by kernel_rfl)) (hJ.vals 14 _ rfl (hp 14 (by kernel_rfl)))
                      obtain ⟨⟨z5, z0⟩, z1, z2, z3⟩ := HYN2.out
                      have z4 : 0 < k := by omega
                      rw [if_pos (wanted_of rfl rfl t152)]
                      go_simp
                      exact hK _ _ (hJ.val HOK 16 _ (by kernel_rfl) rfl (Below.refl _ _))
                    case o25aq_17 =>
                      intro LX V aX wX K hl hp hcl hf hJ hK
                      have t154 := hf.in (i := 16) (d := 154) (by kernel_rfl) (hp 16 (by kernel_rfl)) (hJ.vals 16 _ rfl (hp 16 (by kernel_rfl)))
                      have t152 := hf.in (i := 14) (d := 152) (by kernel_rfl) (hp 14 (by kernel_rfl)) (hJ.vals 14 _ rfl (hp 14 (by kernel_rfl)))
                      rw [if_pos (wanted_of rfl rfl t152)]
                      go_simp
                      exact hK _ _ (hJ.val HOK 17 _ (by kernel_rfl) rfl (Below.refl _ _))
                    case o25aq_18 =>
                      intro LX V aX wX K hl hp hcl hf hJ hK
                      have t20 : aX.tmps[20]? = some (.slice (some ⟨yb, yo, none⟩) m yz) := hf.old (by kernel_rfl) rfl
                      have t155 := hf.in (i := 17) (d := 155) (by kernel_rfl) (hp 17 (by kernel_rfl)) (hJ.vals 17 _ rfl (hp 17 (by kernel_rfl)))
                      rw [if_pos (wanted_of rfl rfl t155)]
                      go_simp
                      exact hK _ _ (hJ.val HOK 18 _ (by kernel_rfl) rfl (Below.refl _ _))
                    case o25aq_19 =>
                      intro LX V aX wX K hl hp hcl hf hJ hK
                      have t21 : aX.tmps[21]? = some (.int .i64 (k : Int)) := hf.old (by kernel_rfl) rfl
                      have t155 := hf.in (i := 17) (d := 155) (by kernel_rfl) (hp 17 (by kernel_rfl)) (hJ.vals 17 _ rfl (hp 17 (by kernel_rfl)))
                      rw [if_pos (wanted_of rfl rfl t155)]
                      go_simp
                      exact hK _ _ (hJ.val HOK 19 _ (by kernel_rfl) rfl (Below.refl _ _))
                    case o25aq_20 =>
                      intro LX V aX wX K hl hp hcl hf hJ hK
                      have t156 := hf.in (i := 18) (d := 156) (by kernel_rfl) (hp 18 (by kernel_rfl)) (hJ.vals 18 _ rfl (hp 18 (by kernel_rfl)))
                      have t157 := hf.in (i := 19) (d := 157) (by kernel_rfl) (hp 19 (by kernel_rfl)) (hJ.vals 19 _ rfl (hp 19 (by kernel_rfl)))
                      have t155 := hf.in (i := 17) (d := 155) (by kernel_rfl) (hp 17 (by kernel_rfl)) (hJ.vals 17 _ rfl (hp 17 (by kernel_rfl)))
                      obtain ⟨y5, y0, y1, y2⟩ := HYN.out
                      rw [if_pos (wanted_of rfl rfl t155)]
                      go_simp
                      exact hK _ _ (hJ.val HOK 20 _ (by kernel_rfl) rfl (Below.refl _ _))
                    case o25aq_21 =>
                      intro LX V aX wX K hl hp hcl hf hJ hK
                      have t158 := hf.in (i := 20) (d := 158) (by kernel_rfl) (hp 20 (by kernel_rfl)) (hJ.vals 20 _ rfl (hp 20 (by kernel_rfl)))
                      have t155 := hf.in (i := 17) (d := 155) (by kernel_rfl) (hp 17 (by kernel_rfl)) (hJ.vals 17 _ rfl (hp 17 (by kernel_rfl)))
                      have cy := HYK.out wX hJ.below
                      rw [if_pos (wanted_of rfl rfl t155)]
                      go_simp
                      exact hK _ _ (hJ.val HOK 21 _ (by kernel_rfl) rfl (Below.refl _ _))
                    case o25aq_22 =>
                      intro LX V aX wX K hl hp hcl hf hJ hK
                      have t20 : aX.tmps[20]? = some (.slice (some ⟨yb, yo, none⟩) m yz) := hf.old (by kernel_rfl) rfl
                      have t155 := hf.in (i := 17) (d := 155) (by kernel_rfl) (hp 17 (by kernel_rfl)) (hJ.vals 17 _ rfl (hp 17 (by kernel_rfl)))
                      rw [if_pos (wanted_of rfl rfl t155)]
                      go_simp
                      exact hK _ _ (hJ.val HOK 22 _ (by kernel_rfl) rfl (Below.refl _ _))
                    case o25aq_23 =>
                      intro LX V aX wX K hl hp hcl hf hJ hK
                      have t21 : aX.tmps[21]? = some (.int .i64 (k : Int)) := hf.old (by kernel_rfl) rfl
                      have t155 := hf.in (i := 17) (d := 155) (by kernel_rfl) (hp 17 (by kernel_rfl)) (hJ.vals 17 _ rfl (hp 17 (by kernel_rfl)))
                      rw [if_pos (wanted_of rfl rfl t155)]
                      go_simp
                      exact hK _ _ (hJ.val HOK 23 _ (by kernel_rfl) rfl (Below.refl _ _))
                    case o25aq_24 =>
                      intro LX V aX wX K hl hp hcl hf hJ hK
                      have t161 := hf.in (i := 23) (d := 161) (by kernel_rfl) (hp 23 (by kernel_rfl)) (hJ.vals 23 _ rfl (hp 23 (by kernel_rfl)))
                      have t155 := hf.in (i := 17) (d := 155) (by kernel_rfl) (hp 17 (by kernel_rfl)) (hJ.vals 17 _ rfl (hp 17 (by kernel_rfl)))
                      obtain ⟨⟨z5, z0⟩, z1, z2, z3⟩ := HYN2.out
                      rw [if_pos (wanted_of rfl rfl t155)]
                      go_simp
                      exact hK _ _ (hJ.val HOK 24 _ (by kernel_rfl) rfl (Below.refl _ _))
                    case o25aq_25 =>
                      intro LX V aX wX K hl hp hcl hf hJ hK
                      have t160 := hf.in (i := 22) (d := 160) (by kernel_rfl) (hp 22 (by kernel_rfl)) (hJ.vals 22 _ rfl (hp 22 (by kernel_rfl)))
                      have t162 := hf.in (i := 24) (d := 162) (by kernel_rfl) (hp 24 (by kernel_rfl)) (hJ.vals 24 _ rfl (hp 24 (by kernel_rfl)))
                      have t155 := hf.in (i := 17) (d := 155) (by kernel_rfl) (hp 17 (by kernel_rfl)) (hJ.vals 17 _ rfl (hp 17 (by kernel_rfl)))
                      obtain ⟨⟨z5, z0⟩, z1, z2, z3⟩ := HYN2.out
                      rw [if_pos (wanted_of rfl rfl t155)]
                      go_simp
                      exact hK _ _ (hJ.val HOK 25 _ (by kernel_rfl) rfl (Below.refl _ _))
                    case o25aq_26 =>
                      intro LX V aX wX K hl hp hcl hf hJ hK
                      have t163 := hf.in (i := 25) (d := 163) (by kernel_rfl) (hp 25 (by kernel_rfl)) (hJ.vals 25 _ rfl (hp 25 (by kernel_rfl)))
                      have t155 := hf.in (i := 17) (d := 155) (by kernel_rfl) (hp 17 (by kernel_rfl)) (hJ.vals 17 _ rfl (hp 17 (by kernel_rfl)))
                      have cz := HZK.out wX hJ.below
                      rw [if_pos (wanted_of rfl rfl t155)]
                      go_simp
                      exact hK _ _ (hJ.val HOK 26 _ (by kernel_rfl) rfl (Below.refl _ _))
                    case o25aq_27 =>
                      intro LX V aX wX K hl hp hcl hf hJ hK
                      have t159 := hf.in (i := 21) (d := 159) (by kernel_rfl) (hp 21 (by kernel_rfl)) (hJ.vals 21 _ rfl (hp 21 (by kernel_rfl)))
                      have t164 := hf.in (i := 26) (d := 164) (by kernel_rfl) (hp 26 (by kernel_rfl)) (hJ.vals 26 _ rfl (hp 26 (by kernel_rfl)))
                      have t155 := hf.in (i := 17) (d := 155) (by kernel_rfl) (hp 17 (by kernel_rfl)) (hJ.vals 17 _ rfl (hp 17 (by kernel_rfl)))
                      obtain ⟨⟨z5, z0⟩, z1, z2, z3⟩ := HYN2.out
                      have q1 : decide ((y : Int) ≤ (z : Int)) = false := by simp; omega
                      have q2 : decide (y ≤ z) = false := by simp; omega
                      clear z3
                      rw [if_pos (wanted_of rfl rfl t155)]
                      go_simp
                      exact hK _ _ (hJ.val HOK 27 _ (by kernel_rfl) rfl (Below.refl _ _))
                    case o25aq_28 =>
                      intro LX V aX wX K hl hp hcl hf hJ hK
                      have t155 := hf.in (i := 17) (d := 155) (by kernel_rfl) (hp 17 (by kernel_rfl)) (hJ.vals 17 _ rfl (hp 17 (by kernel_rfl)))
                      have t165 := hf.in (i := 27) (d := 165) (by kernel_rfl) (hp 27 (by kernel_rfl)) (hJ.vals 27 _ rfl (hp 27 (by kernel_rfl)))
                      have t152 := hf.in (i := 14) (d := 152) (by kernel_rfl) (hp 14 (by kernel_rfl)) (hJ.vals 14 _ rfl (hp 14 (by kernel_rfl)))
                      rw [if_pos (wanted_of rfl rfl t152)]
                      go_simp
                      exact hK _ _ (hJ.val HOK 28 _ (by kernel_rfl) rfl (Below.refl _ _))
                    case o25aq_29 =>
                      intro LX V aX wX K hl hp hcl hf hJ hK
                      have t152 := hf.in (i := 14) (d := 152) (by kernel_rfl) (hp 14 (by kernel_rfl)) (hJ.vals 14 _ rfl (hp 14 (by kernel_rfl)))
                      have t166 := hf.in (i := 28) (d := 166) (by kernel_rfl) (hp 28 (by kernel_rfl)) (hJ.vals 28 _ rfl (hp 28 (by kernel_rfl)))
                      rw [if_pos (by rfl)]
                      go_simp
                      exact hK _ _ (hJ.val HOK 29 _ (by kernel_rfl) rfl (Below.refl _ _))
                  intro V wZ hJ
                  have hv := hJ.vals 29 _ rfl (by kernel_rfl)
                  have HBZ := Lib.hid hJ.below
                  simp only [puts, Act.put, List.setIfInBounds_toArray, List.set_cons_zero, List.set_cons_succ]
                  rw [hv]
                  clear hJ HOK hv
                  have HSTZ : Hid (IsInts wZ xa m xz X ∧ IsInts wZ (some ⟨yb, yo, none⟩) m yz Y ∧ OwnI wZ B (.slice (some ⟨ga, 0, none⟩) n n) A ∧ wZ.rowIs hk 4 n (fun j => .bool (marked A Y k j)) ∧ Below W0.heap.size W0 wZ) := Lib.hid ⟨HST.out.1.later HBZ.out (Nat.le_refl _), HST.out.2.1.later HBZ.out (Nat.le_refl _), HST.out.2.2.1.later HBZ.out, HST.out.2.2.2.1.of_block (HBZ.out.block _ (rowIs_lt HST.out.2.2.2.1)), HST.out.2.2.2.2.trans (HBZ.out.mono HST.out.2.2.2.2.size)⟩
                  obtain ⟨hi5, hi0, hwi, hlt2, hyn, hjn⟩ := HIX2.out
                  have cY := HYK.out wZ HBZ.out
                  have cA := HSTZ.out.2.2.1.cellAt (HTI.out.alen.trans HN.out) hyn
                  rw [HYJ.out.2] at cA
                  have fH := HSTZ.out.2.2.2.1.frozen j
                  have x0 : (0 : Int) ≤ (y : Int) := by omega
                  have x1 : (y : Int) < (n : Int) := by omega
                  have x2 : (0 : Int) ≤ (j : Int) := by omega
                  have x3 : (j : Int) < (n : Int) := by omega
                  have cH := HSTZ.out.2.2.2.1.cell hjn
                  obtain ⟨mq, hmq⟩ : ∃ q, q = marked A Y k j := ⟨_, rfl⟩
                  rw [← hmq] at cH
                  clear hmq
                  go_wp2_with fail
                  go_roundw
                  case rel =>
                    refine ⟨k + 1, by omega, by go_num, Lib.hid ⟨HSTZ.out.1.setOther HBX.out, HSTZ.out.2.1.setOther HBY.out, HSTZ.out.2.2.1.byB HSTZ.out.2.2.2.1, (HSTZ.out.2.2.2.1.set j (.bool true)).congr (fun i hi' => ?_), HSTZ.out.2.2.2.2.setCell (p := ⟨hk, j, none⟩) HKW.out _⟩⟩
                    rw [marked_step (by rw [HYL.out]; exact hlt2) HYJ.out.1 HYJ.out.2 i]
                    by_cases hij : i = j
                    · rw [if_pos hij, if_pos hij]
                    · rw [if_neg hij, if_neg hij]
                  case measure => simp [intOf]; omega
                · have hk0' : ¬ (0 : Int) < (k : Int) := by omega
                  have HK0 := Lib.hid hk0'
                  have HIX2 := Lib.hid (And.intro hi5 (And.intro hi0 (And.intro hwi (And.intro hlt2 (And.intro hyn hjn)))))
                  clear hy hj cY hone hat hk0 hk0' hyn hjn hkm
                  go_wp2_with fail
                  clear hi5 hi0 hwi hlt2
                  have HOK : ∀ f ∈ ([] : List Fct), FctOk f := by
                    intro f hf; cases hf
                  refine wp_region_J (s := [(138, 0), (139, 1), (140, 2), (141, 3), (142, 4), (143, 5), (144, 6), (145, 7), (146, 8), (147, 9), (148, 10), (149, 11), (150, 12), (151, 13), (152, 14), (153, 15), (154, 16), (155, 17), (156, 18), (157, 19), (158, 20), (159, 21), (160, 22), (161, 23), (162, 24), (163, 25), (164, 26), (165, 27), (166, 28), (167, 29)]) (by kernel_rfl) (GrowJ wr (fun iX => match iX with | 0 => some (.slice (some ⟨yb, yo, none⟩) m yz) | 1 => some (.int .i64 (k : Int)) | 2 => some (.pointer (some ⟨yb, yo + k, none⟩)) | 3 => some (.int .i64 (y : Int)) | 4 => some (.bool false) | 5 => some (.bool false) | 6 => some (.slice (some ⟨yb, yo, none⟩) m yz) | 7 => some (.int .i64 (k : Int)) | 8 => some (.pointer (some ⟨yb, yo + k, none⟩)) | 9 => some (.int .i64 (y : Int)) | 10 => some (.slice ai n ci) | 11 => some (.int .i64 (n : Int)) | 12 => some (.bool false) | 13 => some (.bool false) | 14 => some (.bool false) | 15 => some (.int .i64 (k : Int)) | 16 => some (.bool false) | 17 => some (.bool false) | 18 => some (undef) | 19 => some (undef) | 20 => some (undef) | 21 => some (undef) | 22 => some (undef) | 23 => some (undef) | 24 => some (undef) | 25 => some (undef) | 26 => some (undef) | 27 => some (undef) | 28 => some (.bool false) | 29 => some (.bool false) | _ => none) []) (by kernel_rfl) (by kernel_rfl) (by kernel_rfl) (by kernel_rfl) (fun _ => undef) ?start25bq ?step25bq ?done25bq
                  case start25bq => exact GrowJ.start ((Below.refl _ _).drew)
                  case step25bq =>
                    refine ⟨?o25bq_0, ?o25bq_1, ?o25bq_2, ?o25bq_3, ?o25bq_4, ?o25bq_5, ?o25bq_6, ?o25bq_7, ?o25bq_8, ?o25bq_9, ?o25bq_10, ?o25bq_11, ?o25bq_12, ?o25bq_13, ?o25bq_14, ?o25bq_15, ?o25bq_16, ?o25bq_17, ?o25bq_18, ?o25bq_19, ?o25bq_20, ?o25bq_21, ?o25bq_22, ?o25bq_23, ?o25bq_24, ?o25bq_25, ?o25bq_26, ?o25bq_27, ?o25bq_28, ?o25bq_29, trivial⟩
                    case o25bq_0 =>
                      intro LX V aX wX K hl hp hcl hf hJ hK
                      have t20 : aX.tmps[20]? = some (.slice (some ⟨yb, yo, none⟩) m yz) := hf.old (by kernel_rfl) rfl
                      rw [if_pos (by rfl)]
                      go_simp
                      exact hK _ _ (hJ.val HOK 0 _ (by kernel_rfl) rfl (Below.refl _ _))
                    case o25bq_1 =>
                      intro LX V aX wX K hl hp hcl hf hJ hK
                      have t21 : aX.tmps[21]? = some (.int .i64 (k : Int)) := hf.old (by kernel_rfl) rfl
                      rw [if_pos (by rfl)]
                      go_simp
                      exact hK _ _ (hJ.val HOK 1 _ (by kernel_rfl) rfl (Below.refl _ _))
                    case o25bq_2 =>
                      intro LX V aX wX K hl hp hcl hf hJ hK
                      have t138 := hf.in (i := 0) (d := 138) (by kernel_rfl) (hp 0 (by kernel_rfl)) (hJ.vals 0 _ rfl (hp 0 (by kernel_rfl)))
                      have t139 := hf.in (i := 1) (d := 139) (by kernel_rfl) (hp 1 (by kernel_rfl)) (hJ.vals 1 _ rfl (hp 1 (by kernel_rfl)))
                      obtain ⟨y5, y0, y1, y2⟩ := HYN.out
                      rw [if_pos (by rfl)]
                      go_simp
                      exact hK _ _ (hJ.val HOK 2 _ (by kernel_rfl) rfl (Below.refl _ _))
                    case o25bq_3 =>
                      intro LX V aX wX K hl hp hcl hf hJ hK
                      have t140 := hf.in (i := 2) (d := 140) (by kernel_rfl) (hp 2 (by kernel_rfl)) (hJ.vals 2 _ rfl (hp 2 (by kernel_rfl)))
                      have cy := HYK.out wX hJ.below
                      rw [if_pos (by rfl)]
                      go_simp
                      exact hK _ _ (hJ.val HOK 3 _ (by kernel_rfl) rfl (Below.refl _ _))
                    case o25bq_4 =>
                      intro LX V aX wX K hl hp hcl hf hJ hK
                      have t141 := hf.in (i := 3) (d := 141) (by kernel_rfl) (hp 3 (by kernel_rfl)) (hJ.vals 3 _ rfl (hp 3 (by kernel_rfl)))
                      obtain ⟨y5, y0, y1, y2⟩ := HYN.out
                      rw [if_pos (by rfl)]
                      go_simp
                      exact hK _ _ (hJ.val HOK 4 _ (by kernel_rfl) rfl (Below.refl _ _))
                    case o25bq_5 =>
                      intro LX V aX wX K hl hp hcl hf hJ hK
                      have t142 := hf.in (i := 4) (d := 142) (by kernel_rfl) (hp 4 (by kernel_rfl)) (hJ.vals 4 _ rfl (hp 4 (by kernel_rfl)))
                      rw [if_pos (by rfl)]
                      go_simp
                      exact hK _ _ (hJ.val HOK 5 _ (by kernel_rfl) rfl (Below.refl _ _))
                    case o25bq_6 =>
                      intro LX V aX wX K hl hp hcl hf hJ hK
                      have t20 : aX.tmps[20]? = some (.slice (some ⟨yb, yo, none⟩) m yz) := hf.old (by kernel_rfl) rfl
                      have t143 := hf.in (i := 5) (d := 143) (by kernel_rfl) (hp 5 (by kernel_rfl)) (hJ.vals 5 _ rfl (hp 5 (by kernel_rfl)))
                      rw [if_pos (wanted_of rfl rfl t143)]
                      go_simp
                      exact hK _ _ (hJ.val HOK 6 _ (by kernel_rfl) rfl (Below.refl _ _))
                    case o25bq_7 =>
                      intro LX V aX wX K hl hp hcl hf hJ hK
                      have t21 : aX.tmps[21]? = some (.int .i64 (k : Int)) := hf.old (by kernel_rfl) rfl
                      have t143 := hf.in (i := 5) (d := 143) (by kernel_rfl) (hp 5 (by kernel_rfl)) (hJ.vals 5 _ rfl (hp 5 (by kernel_rfl)))
                      rw [if_pos (wanted_of rfl rfl t143)]
                      go_simp
                      exact hK _ _ (hJ.val HOK 7 _ (by kernel_rfl) rfl (Below.refl _ _))
                    case o25bq_8 =>
                      intro LX V aX wX K hl hp hcl hf hJ hK
                      have t144 := hf.in (i := 6) (d := 144) (by kernel_rfl) (hp 6 (by kernel_rfl)) (hJ.vals 6 _ rfl (hp 6 (by kernel_rfl)))
                      have t145 := hf.in (i := 7) (d := 145) (by kernel_rfl) (hp 7 (by kernel_rfl)) (hJ.vals 7 _ rfl (hp 7 (by kernel_rfl)))
                      have t143 := hf.in (i := 5) (d := 143) (by kernel_rfl) (hp 5 (by kernel_rfl)) (hJ.vals 5 _ rfl (hp 5 (by kernel_rfl)))
                      obtain ⟨y5, y0, y1, y2⟩ := HYN.out
                      rw [if_pos (wanted_of rfl rfl t143)]
                      go_simp
                      exact hK _ _ (hJ.val HOK 8 _ (by kernel_rfl) rfl (Below.refl _ _))
                    case o25bq_9 =>
                      intro LX V aX wX K hl hp hcl hf hJ hK
                      have t146 := hf.in (i := 8) (d := 146) (by kernel_rfl) (hp 8 (by kernel_rfl)) (hJ.vals 8 _ rfl (hp 8 (by kernel_rfl)))
                      have t143 := hf.in (i := 5) (d := 143) (by kernel_rfl) (hp 5 (by kernel_rfl)) (hJ.vals 5 _ rfl (hp 5 (by kernel_rfl)))
                      have cy := HYK.out wX hJ.below
                      rw [if_pos (wanted_of rfl rfl t143)]
                      go_simp
                      exact hK _ _ (hJ.val HOK 9 _ (by kernel_rfl) rfl (Below.refl _ _))
                    case o25bq_10 =>
                      intro LX V aX wX K hl hp hcl hf hJ hK
                      have t8 : aX.tmps[8]? = some (.slice ai n ci) := hf.old (by kernel_rfl) rfl
                      have t143 := hf.in (i := 5) (d := 143) (by kernel_rfl) (hp 5 (by kernel_rfl)) (hJ.vals 5 _ rfl (hp 5 (by kernel_rfl)))
                      rw [if_pos (wanted_of rfl rfl t143)]
                      go_simp
                      exact hK _ _ (hJ.val HOK 10 _ (by kernel_rfl) rfl (Below.refl _ _))
                    case o25bq_11 =>
                      intro LX V aX wX K hl hp hcl hf hJ hK
                      have t148 := hf.in (i := 10) (d := 148) (by kernel_rfl) (hp 10 (by kernel_rfl)) (hJ.vals 10 _ rfl (hp 10 (by kernel_rfl)))
                      have t143 := hf.in (i := 5) (d := 143) (by kernel_rfl) (hp 5 (by kernel_rfl)) (hJ.vals 5 _ rfl (hp 5 (by kernel_rfl)))
                      rw [if_pos (wanted_of rfl rfl t143)]
                      go_simp
                      exact hK _ _ (hJ.val HOK 11 _ (by kernel_rfl) rfl (Below.refl _ _))
                    case o25bq_12 =>
                      intro LX V aX wX K hl hp hcl hf hJ hK
                      have t147 := hf.in (i := 9) (d := 147) (by kernel_rfl) (hp 9 (by kernel_rfl)) (hJ.vals 9 _ rfl (hp 9 (by kernel_rfl)))
                      have t149 := hf.in (i := 11) (d := 149) (by kernel_rfl) (hp 11 (by kernel_rfl)) (hJ.vals 11 _ rfl (hp 11 (by kernel_rfl)))
                      have t143 := hf.in (i := 5) (d := 143) (by kernel_rfl) (hp 5 (by kernel_rfl)) (hJ.vals 5 _ rfl (hp 5 (by kernel_rfl)))
                      obtain ⟨y5, y0, y1, y2⟩ := HYN.out
                      have q1 : decide ((n : Int) ≤ (y : Int)) = false := by simp; omega
                      have q2 : decide (n ≤ y) = false := by simp; omega
                      clear y2
                      rw [if_pos (wanted_of rfl rfl t143)]
                      go_simp
                      exact hK _ _ (hJ.val HOK 12 _ (by kernel_rfl) rfl (Below.refl _ _))
                    case o25bq_13 =>
                      intro LX V aX wX K hl hp hcl hf hJ hK
                      have t143 := hf.in (i := 5) (d := 143) (by kernel_rfl) (hp 5 (by kernel_rfl)) (hJ.vals 5 _ rfl (hp 5 (by kernel_rfl)))
                      have t150 := hf.in (i := 12) (d := 150) (by kernel_rfl) (hp 12 (by kernel_rfl)) (hJ.vals 12 _ rfl (hp 12 (by kernel_rfl)))
                      rw [if_pos (by rfl)]
                      go_simp
                      exact hK _ _ (hJ.val HOK 13 _ (by kernel_rfl) rfl (Below.refl _ _))
                    case o25bq_14 =>
                      intro LX V aX wX K hl hp hcl hf hJ hK
                      have t151 := hf.in (i := 13) (d := 151) (by kernel_rfl) (hp 13 (by kernel_rfl)) (hJ.vals 13 _ rfl (hp 13 (by kernel_rfl)))
                      rw [if_pos (by rfl)]
                      go_simp
                      exact hK _ _ (hJ.val HOK 14 _ (by kernel_rfl) rfl (Below.refl _ _))
                    case o25bq_15 =>
                      intro LX V aX wX K hl hp hcl hf hJ hK
                      have t21 : aX.tmps[21]? = some (.int .i64 (k : Int)) := hf.old (by kernel_rfl) rfl
                      have t152 := hf.in (i := 14) (d := 152) (by kernel_rfl) (hp 14 (by kernel_rfl)) (hJ.vals 14 _ rfl (hp 14 (by kernel_rfl)))
                      rw [if_pos (wanted_of rfl rfl t152)]
                      go_simp
                      exact hK _ _ (hJ.val HOK 15 _ (by kernel_rfl) rfl (Below.refl _ _))
                    case o25bq_16 =>
                      intro LX V aX wX K hl hp hcl hf hJ hK
                      have t153 := hf.in (i := 15) (d := 153) (by kernel_rfl) (hp 15 (by kernel_rfl)) (hJ.vals 15 _ rfl (hp 15 (by kernel_rfl)))
                      have t152 := hf.in (i := 14) (d := 152) (by kernel_rfl) (hp 14 (by kernel_rfl)) (hJ.vals 14 _ rfl (hp 14 (by kernel_rfl)))
                      have hk0 := HK0.out
                      have hk1 : decide ((0 : Int) < (k : Int)) = false := by simp; omega
                      have hk2 : decide (0 < k) = false := by simp; omega
                      clear hk0
                      rw [if_pos (wanted_of rfl rfl t152)]
                      go_simp
                      exact hK _ _ (hJ.val HOK 16 _ (by kernel_rfl) rfl (Below.refl _ _))
                    case o25bq_17 =>
                      intro LX V aX wX K hl hp hcl hf hJ hK
                      have t154 := hf.in (i := 16) (d := 154) (by kernel_rfl) (hp 16 (by kernel_rfl)) (hJ.vals 16 _ rfl (hp 16 (by kernel_rfl)))
                      have t152 := hf.in (i := 14) (d := 152) (by kernel_rfl) (hp 14 (by kernel_rfl)) (hJ.vals 14 _ rfl (hp 14 (by kernel_rfl)))
                      rw [if_pos (wanted_of rfl rfl t152)]
                      go_simp
                      exact hK _ _ (hJ.val HOK 17 _ (by kernel_rfl) rfl (Below.refl _ _))
                    case o25bq_18 =>
                      intro LX V aX wX K hl hp hcl hf hJ hK
                      have t155 := hf.in (i := 17) (d := 155) (by kernel_rfl) (hp 17 (by kernel_rfl)) (hJ.vals 17 _ rfl (hp 17 (by kernel_rfl)))
                      rw [if_neg (by rw [wanted_not (b := true) rfl rfl t155]; exact Bool.false_ne_true)]
                      exact hK _ _ (hJ.val HOK 18 _ (by kernel_rfl) rfl (Below.refl _ _))
                    case o25bq_19 =>
                      intro LX V aX wX K hl hp hcl hf hJ hK
                      have t155 := hf.in (i := 17) (d := 155) (by kernel_rfl) (hp 17 (by kernel_rfl)) (hJ.vals 17 _ rfl (hp 17 (by kernel_rfl)))
                      rw [if_neg (by rw [wanted_not (b := true) rfl rfl t155]; exact Bool.false_ne_true)]
                      exact hK _ _ (hJ.val HOK 19 _ (by kernel_rfl) rfl (Below.refl _ _))
                    case o25bq_20 =>
                      intro LX V aX wX K hl hp hcl hf hJ hK
                      have t155 := hf.in (i := 17) (d := 155) (by kernel_rfl) (hp 17 (by kernel_rfl)) (hJ.vals 17 _ rfl (hp 17 (by kernel_rfl)))
                      rw [if_neg (by rw [wanted_not (b := true) rfl rfl t155]; exact Bool.false_ne_true)]
                      exact hK _ _ (hJ.val HOK 20 _ (by kernel_rfl) rfl (Below.refl _ _))
                    case o25bq_21 =>
                      intro LX V aX wX K hl hp hcl hf hJ hK
                      have t155 := hf.in (i := 17) (d := 155) (by kernel_rfl) (hp 17 (by kernel_rfl)) (hJ.vals 17 _ rfl (hp 17 (by kernel_rfl)))
                      rw [if_neg (by rw [wanted_not (b := true) rfl rfl t155]; exact Bool.false_ne_true)]
                      exact hK _ _ (hJ.val HOK 21 _ (by kernel_rfl) rfl (Below.refl _ _))
                    case o25bq_22 =>
                      intro LX V aX wX K hl hp hcl hf hJ hK
                      have t155 := hf.in (i := 17) (d := 155) (by kernel_rfl) (hp 17 (by kernel_rfl)) (hJ.vals 17 _ rfl (hp 17 (by kernel_rfl)))
                      rw [if_neg (by rw [wanted_not (b := true) rfl rfl t155]; exact Bool.false_ne_true)]
                      exact hK _ _ (hJ.val HOK 22 _ (by kernel_rfl) rfl (Below.refl _ _))
                    case o25bq_23 =>
                      intro LX V aX wX K hl hp hcl hf hJ hK
                      have t155 := hf.in (i := 17) (d := 155) (by kernel_rfl) (hp 17 (by kernel_rfl)) (hJ.vals 17 _ rfl (hp 17 (by kernel_rfl)))
                      rw [if_neg (by rw [wanted_not (b := true) rfl rfl t155]; exact Bool.false_ne_true)]
                      exact hK _ _ (hJ.val HOK 23 _ (by kernel_rfl) rfl (Below.refl _ _))
                    case o25bq_24 =>
                      intro LX V aX wX K hl hp hcl hf hJ hK
                      have t155 := hf.in (i := 17) (d := 155) (by kernel_rfl) (hp 17 (by kernel_rfl)) (hJ.vals 17 _ rfl (hp 17 (by kernel_rfl)))
                      rw [if_neg (by rw [wanted_not (b := true) rfl rfl t155]; exact Bool.false_ne_true)]
                      exact hK _ _ (hJ.val HOK 24 _ (by kernel_rfl) rfl (Below.refl _ _))
                    case o25bq_25 =>
                      intro LX V aX wX K hl hp hcl hf hJ hK
                      have t155 := hf.in (i := 17) (d := 155) (by kernel_rfl) (hp 17 (by kernel_rfl)) (hJ.vals 17 _ rfl (hp 17 (by kernel_rfl)))
                      rw [if_neg (by rw [wanted_not (b := true) rfl rfl t155]; exact Bool.false_ne_true)]
                      exact hK _ _ (hJ.val HOK 25 _ (by kernel_rfl) rfl (Below.refl _ _))
                    case o25bq_26 =>
                      intro LX V aX wX K hl hp hcl hf hJ hK
                      have t155 := hf.in (i := 17) (d := 155) (by kernel_rfl) (hp 17 (by kernel_rfl)) (hJ.vals 17 _ rfl (hp 17 (by kernel_rfl)))
                      rw [if_neg (by rw [wanted_not (b := true) rfl rfl t155]; exact Bool.false_ne_true)]
                      exact hK _ _ (hJ.val HOK 26 _ (by kernel_rfl) rfl (Below.refl _ _))
                    case o25bq_27 =>
                      intro LX V aX wX K hl hp hcl hf hJ hK
                      have t155 := hf.in (i := 17) (d := 155) (by kernel_rfl) (hp 17 (by kernel_rfl)) (hJ.vals 17 _ rfl (hp 17 (by kernel_rfl)))
                      rw [if_neg (by rw [wanted_not (b := true) rfl rfl t155]; exact Bool.false_ne_true)]
                      exact hK _ _ (hJ.val HOK 27 _ (by kernel_rfl) rfl (Below.refl _ _))
                    case o25bq_28 =>
                      intro LX V aX wX K hl hp hcl hf hJ hK
                      have t155 := hf.in (i := 17) (d := 155) (by kernel_rfl) (hp 17 (by kernel_rfl)) (hJ.vals 17 _ rfl (hp 17 (by kernel_rfl)))
                      have t165 := hf.in (i := 27) (d := 165) (by kernel_rfl) (hp 27 (by kernel_rfl)) (hJ.vals 27 _ rfl (hp 27 (by kernel_rfl)))
                      have t152 := hf.in (i := 14) (d := 152) (by kernel_rfl) (hp 14 (by kernel_rfl)) (hJ.vals 14 _ rfl (hp 14 (by kernel_rfl)))
                      rw [if_pos (wanted_of rfl rfl t152)]
                      go_simp
                      exact hK _ _ (hJ.val HOK 28 _ (by kernel_rfl) rfl (Below.refl _ _))
                    case o25bq_29 =>
                      intro LX V aX wX K hl hp hcl hf hJ hK
                      have t152 := hf.in (i := 14) (d := 152) (by kernel_rfl) (hp 14 (by kernel_rfl)) (hJ.vals 14 _ rfl (hp 14 (by kernel_rfl)))
                      have t166 := hf.in (i := 28) (d := 166) (by kernel_rfl) (hp 28 (by kernel_rfl)) (hJ.vals 28 _ rfl (hp 28 (by kernel_rfl)))
                      rw [if_pos (by rfl)]
                      go_simp
                      exact hK _ _ (hJ.val HOK 29 _ (by kernel_rfl) rfl (Below.refl _ _))
                  intro V wZ hJ
                  have hv := hJ.vals 29 _ rfl (by kernel_rfl)
                  have HBZ := Lib.hid hJ.below
                  simp only [puts, Act.put, List.setIfInBounds_toArray, List.set_cons_zero, List.set_cons_succ]
                  rw [hv]
                  clear hJ HOK hv
                  have HSTZ : Hid (IsInts wZ xa m xz X ∧ IsInts wZ (some ⟨yb, yo, none⟩) m yz Y ∧ OwnI wZ B (.slice (some ⟨ga, 0, none⟩) n n) A ∧ wZ.rowIs hk 4 n (fun j => .bool (marked A Y k j)) ∧ Below W0.heap.size W0 wZ) := Lib.hid ⟨HST.out.1.later HBZ.out (Nat.le_refl _), HST.out.2.1.later HBZ.out (Nat.le_refl _), HST.out.2.2.1.later HBZ.out, HST.out.2.2.2.1.of_block (HBZ.out.block _ (rowIs_lt HST.out.2.2.2.1)), HST.out.2.2.2.2.trans (HBZ.out.mono HST.out.2.2.2.2.size)⟩
                  obtain ⟨hi5, hi0, hwi, hlt2, hyn, hjn⟩ := HIX2.out
                  have cY := HYK.out wZ HBZ.out
                  have cA := HSTZ.out.2.2.1.cellAt (HTI.out.alen.trans HN.out) hyn
                  rw [HYJ.out.2] at cA
                  have fH := HSTZ.out.2.2.2.1.frozen j
                  have x0 : (0 : Int) ≤ (y : Int) := by omega
                  have x1 : (y : Int) < (n : Int) := by omega
                  have x2 : (0 : Int) ≤ (j : Int) := by omega
                  have x3 : (j : Int) < (n : Int) := by omega
                  have cH := HSTZ.out.2.2.2.1.cell hjn
                  obtain ⟨mq, hmq⟩ : ∃ q, q = marked A Y k j := ⟨_, rfl⟩
                  rw [← hmq] at cH
                  clear hmq
                  go_wp2_with fail
                  go_roundw
                  case rel =>
                    refine ⟨k + 1, by omega, by go_num, Lib.hid ⟨HSTZ.out.1.setOther HBX.out, HSTZ.out.2.1.setOther HBY.out, HSTZ.out.2.2.1.byB HSTZ.out.2.2.2.1, (HSTZ.out.2.2.2.1.set j (.bool true)).congr (fun i hi' => ?_), HSTZ.out.2.2.2.2.setCell (p := ⟨hk, j, none⟩) HKW.out _⟩⟩
                    rw [marked_step (by rw [HYL.out]; exact hlt2) HYJ.out.1 HYJ.out.2 i]
                    by_cases hij : i = j
                    · rw [if_pos hij, if_pos hij]
                    · rw [if_neg hij, if_neg hij]
                  case measure => simp [intOf]; omega
              · have hkm2 : m = k := by omega
                subst hkm2
                have HS9 := Lib.hid (And.intro HST.out.1 (And.intro HST.out.2.2.2.1 HST.out.2.2.2.2))
                clear HST HS8
                go_wp2_with fail
                go_loopw [22] (fun iv wr => ∃ k : Nat, k ≤ m ∧ iv = .int .i64 k ∧ Hid (IsInts wr xa m xz X ∧ wr.rowIs hk 4 n (fun j => .bool (marked A Y m j)) ∧ Below W0.heap.size W0 wr)) (fun iv _ => m - (intOf iv).toNat)
                case atStart => exact ⟨0, by omega, rfl, HS9⟩
                case round =>
                  obtain ⟨k, hkm, rfl, hst⟩ := hrel
                  have HST := hst
                  clear hst
                  by_cases hlt2 : k < m
                  · have hi5 : (k : Int) < (m : Int) := by omega
                    have hi0 : (0 : Int) ≤ (k : Int) := by omega
                    have hwi : IntKind.i64.wrap ((k : Int) + 1) = (k : Int) + 1 := IntWalk.i64_in _ (by omega)
                    obtain ⟨x, hx, hxn⟩ : ∃ x : Nat, X.getD k 0 = (x : Int) ∧ x < n := by
                      have := askB_at (q := atQ p) (M := L) (k := k) (by rw [← HXY.out.1, HXL.out]; exact hlt2)
                      rw [← HXY.out.1, HN.out] at this
                      exact this
                    have hmk : marked A Y m x = true := by
                      have := HTI.out.marks (atQ p) (k := k) (x := x) (by rw [← HXY.out.1, HXL.out]; exact hlt2) (by rw [← HXY.out.1]; exact hx)
                      rw [← HXY.out.2, HYL.out] at this
                      exact this
                    obtain ⟨xb, xo, hxa, cX⟩ := HST.out.1.at hlt2
                    subst hxa
                    rw [hx] at cX
                    have cH := HST.out.2.1.cell hxn
                    rw [hmk] at cH
                    have x0 : ¬ ((x : Int) < 0) := by omega
                    have x1 : ¬ ((n : Int) ≤ (x : Int)) := by omega
                    have x2 : (0 : Int) ≤ (x : Int) := by omega
                    have x3 : (x : Int) < (n : Int) := by omega
                    clear hx hmk
                    go_wp2_with fail
                    go_roundw
                    case rel => exact ⟨k + 1, by omega, by go_num, HST⟩
                    case measure => simp [intOf]; omega
                  · have hkm2 : m = k := by omega
                    subst hkm2
                    go_wp2_with fail
                    go_ret
                    exact ⟨rfl, HB0.out.trans (HST.out.2.2.mono HB0.out.size)⟩
        · have hi5 : ¬ (i : Int) < (nt : Int) := by omega
          have HTI := Lib.hid hTI
          have HMX := Lib.hid hMX
          have HMI := Lib.hid hMI
          have HBW : Hid (Below W0.heap.size W0 wr) := Lib.hid (HB1.out.trans (by rw [hB] at hMB; exact hMB.mono HB1.out.size))
          have hinM : InB M := by
            intro b hb
            obtain ⟨j, hj, rfl⟩ := List.mem_iff_getElem.1 hb
            have hjL : j < L.length := by rw [← hTI.len]; exact hj
            have h1 := hTI.eq j hjL
            rw [List.getD_eq_getElem?_getD, List.getElem?_eq_getElem hj] at h1
            have h2 := allI_mem.1 (hTI.perm.subset (show A.getD j 0 ∈ A by rw [List.getD_eq_getElem?_getD, List.getElem?_eq_getElem (by rw [hTI.alen]; exact hjL)]; exact List.getElem_mem _))
            have h3 : M[j] = L[(A.getD j 0).toNat]'(by omega) := by
              have : M[j] = bxI L (A.getD j 0) := h1
              rw [this]; unfold bxI
              rw [List.getD_eq_getElem?_getD, List.getElem?_eq_getElem (by omega)]; rfl
            rw [h3]
            exact HIN0.out _ (List.getElem_mem _)
          have HINM := Lib.hid hinM
          have HU := Lib.hid (BuildT_any ao n cap L wr (HI.out.later HBW.out (Nat.le_refl _)) HIN0.out)
          clear hTI hMX hMI hMB hinM
          go_wp2_with fail
          refine HU.out.mono ?_
          rintro e w5 ⟨_, hok, hb5⟩
          obtain ⟨g, rfl, _, ht5⟩ := hok (by rw [HN.out]; omega)
          have HB5 := Lib.hid (HBW.out.trans (hb5.mono HBW.out.size))
          have HT5 := Lib.hid ht5
          have HMX5 := Lib.hid (HMX.out.later hb5)
          have HMI5 := Lib.hid (HMI.out.later hb5)
          obtain ⟨ai2, ci2, hv, hixM⟩ := HMX5.out.is
          rw [HTI.out.len, HN.out] at hv hixM
          cases hv
          have HU2 := Lib.hid (BuildT_any ai n ci M w5 hixM HINM.out)
          clear hok hb5 ht5 hixM
          go_wp2_with fail
          refine HU2.out.mono ?_
          rintro e w6 ⟨_, hok, hb6⟩
          obtain ⟨u, rfl, _, ht6⟩ := hok (by rw [HTI.out.len, HN.out]; omega)
          have HB6 := Lib.hid (HB5.out.trans (hb6.mono HB5.out.size))
          have HTL := Lib.hid (HT5.out.later hb6)
          have HTM := Lib.hid ht6
          have HMI6 := Lib.hid (HMI5.out.later hb6)
          have hmk := make_bools n (by omega) w6
          clear hok hb6 ht6
          obtain ⟨W7, hW7⟩ : ∃ W, W = w6.alloc (.cells (madeCells #[.bool false] n) 4) := ⟨_, rfl⟩
          obtain ⟨hk, hhk⟩ : ∃ h, h = w6.heap.size := ⟨_, rfl⟩
          have hrow7 : W7.rowIs hk 4 n (fun _ => .bool false) := by rw [hW7, hhk]; exact World.rowIs_made _ _ _ _
          have hb7 : Below w6.heap.size w6 W7 := by rw [hW7]; exact (Below.refl _ _).alloc (Nat.le_refl _) _
          have HHK : Hid (hk < W7.heap.size) := Lib.hid (by rw [hW7, hhk]; simp)
          have HHKW : Hid (W0.heap.size ≤ hk) := Lib.hid (by rw [hhk]; exact HB6.out.size)
          have HB7 := Lib.hid (HB6.out.trans (hb7.mono HB6.out.size))
          have HMI7 := Lib.hid (HMI6.out.later hb7)
          have HROW := Lib.hid hrow7
          obtain ⟨X, hX⟩ : ∃ X, X = askB (atQ p) L := ⟨_, rfl⟩
          obtain ⟨Y, hY⟩ : ∃ Y, Y = askB (atQ p) M := ⟨_, rfl⟩
          obtain ⟨m, hm⟩ : ∃ m, m = X.length := ⟨_, rfl⟩
          have hmY : Y.length = m := by rw [hm, hX, hY]; exact HTI.out.count _
          have HXL := Lib.hid hm.symm
          have HYL := Lib.hid hmY
          have HAX : Hid (∀ wX, Below W7.heap.size W7 wX → Calls Try.prog 13 #[.pointer (some ⟨g, 0, none⟩), .agg #[.int .i64 p.x, .int .i64 p.y]] wX fun e w' => ∃ v, e = .returned v ∧ OwnI w' wX.heap.size v X ∧ Below wX.heap.size wX w') := Lib.hid (fun wX hq => by
            have := At_any g L p wX ((HTL.out.later hb7).later hq)
            unfold ptV AskR at this
            rw [← hX] at this
            exact this)
          have HAY : Hid (∀ wX, Below W7.heap.size W7 wX → Calls Try.prog 13 #[.pointer (some ⟨u, 0, none⟩), .agg #[.int .i64 p.x, .int .i64 p.y]] wX fun e w' => ∃ v, e = .returned v ∧ OwnI w' wX.heap.size v Y ∧ Below wX.heap.size wX w') := Lib.hid (fun wX hq => by
            have := At_any u M p wX ((HTM.out.later hb7).later hq)
            unfold ptV AskR at this
            rw [← hY] at this
            exact this)
          have HPC7 : Hid (∀ wX, Below W7.heap.size W7 wX → wX.cell? ⟨w.heap.size, 0, none⟩ = some (.int .i64 p.x) ∧ wX.cell? ⟨w.heap.size, 1, none⟩ = some (.int .i64 p.y)) := Lib.hid (fun wX hq => HPC.out wX (HB7.out.trans (hq.mono HB7.out.size)))
          have HXY := Lib.hid (And.intro hX hY)
          clear hrow7 hX hY hm hmY
          go_wp2_with fail
          rw [← hW7, ← hhk]
          clear hW7 hhk hmk
          have HOK : ∀ f ∈ ([⟨2, fun v w => ∃ x z, v = .slice x m z ∧ IsInts w x m z X ∧ ∀ b, v.ownBlock = some b → hk < b⟩, ⟨5, fun v w => ∃ x z, v = .slice x m z ∧ IsInts w x m z Y ∧ ∀ b, v.ownBlock = some b → hk < b⟩, ⟨6, fun v w => ∃ x z, v = .slice x m z ∧ IsInts w x m z X ∧ ∀ b, v.ownBlock = some b → hk < b⟩, ⟨7, fun v w => ∃ x z, v = .slice x m z ∧ IsInts w x m z Y ∧ ∀ b, v.ownBlock = some b → hk < b⟩] : List Fct), FctOk f := by
            intro f hf
            simp only [List.mem_cons, List.not_mem_nil, or_false] at hf
            rcases hf with rfl | rfl | rfl | rfl
            · exact fun v w w' ⟨x, z, h1, h2, h3⟩ hb => ⟨x, z, h1, h2.later hb (Nat.le_refl _), h3⟩
            · exact fun v w w' ⟨x, z, h1, h2, h3⟩ hb => ⟨x, z, h1, h2.later hb (Nat.le_refl _), h3⟩
            · exact fun v w w' ⟨x, z, h1, h2, h3⟩ hb => ⟨x, z, h1, h2.later hb (Nat.le_refl _), h3⟩
            · exact fun v w w' ⟨x, z, h1, h2, h3⟩ hb => ⟨x, z, h1, h2.later hb (Nat.le_refl _), h3⟩
          refine wp_region_J (s := [(126, 0), (127, 1), (128, 2), (129, 3), (130, 4), (131, 5), (19, 6), (20, 7)]) (by kernel_rfl) (GrowJ W7 (fun iX => match iX with | 0 => some (.pointer (some ⟨g, 0, none⟩)) | 1 => some (.agg #[.int .i64 p.x, .int .i64 p.y]) | 3 => some (.pointer (some ⟨u, 0, none⟩)) | 4 => some (.agg #[.int .i64 p.x, .int .i64 p.y]) | _ => none) [⟨2, fun v w => ∃ x z, v = .slice x m z ∧ IsInts w x m z X ∧ ∀ b, v.ownBlock = some b → hk < b⟩, ⟨5, fun v w => ∃ x z, v = .slice x m z ∧ IsInts w x m z Y ∧ ∀ b, v.ownBlock = some b → hk < b⟩, ⟨6, fun v w => ∃ x z, v = .slice x m z ∧ IsInts w x m z X ∧ ∀ b, v.ownBlock = some b → hk < b⟩, ⟨7, fun v w => ∃ x z, v = .slice x m z ∧ IsInts w x m z Y ∧ ∀ b, v.ownBlock = some b → hk < b⟩]) (by kernel_rfl) (by kernel_rfl) (by kernel_rfl) (by kernel_rfl) (fun _ => undef) ?start21 ?step21 ?done21
          case start21 => exact GrowJ.start ((Below.refl _ _).drew)
          case step21 =>
            refine ⟨?o21_0, ?o21_1, ?o21_2, ?o21_3, ?o21_4, ?o21_5, ?o21_6, ?o21_7, trivial⟩
            case o21_0 =>
              intro LX V aX wX K hl hp hcl hf hJ hK
              have t14 : aX.tmps[14]? = some (.pointer (some ⟨g, 0, none⟩)) := hf.old (by kernel_rfl) rfl
              rw [if_pos (by rfl)]
              go_simp
              exact hK _ _ (hJ.val HOK 0 _ (by kernel_rfl) rfl (Below.refl _ _))
            case o21_1 =>
              intro LX V aX wX K hl hp hcl hf hJ hK
              have t5 : aX.tmps[5]? = some (.pointer (some ⟨w.heap.size, 0, none⟩)) := hf.old (by kernel_rfl) rfl
              obtain ⟨c0, c1⟩ := HPC7.out wX hJ.below
              rw [if_pos (by rfl)]
              go_simp
              exact hK _ _ (hJ.val HOK 1 _ (by kernel_rfl) rfl (Below.refl _ _))
            case o21_2 =>
              intro LX V aX wX K hl hp hcl hf hJ hK
              have t126 := hf.in (i := 0) (d := 126) (by kernel_rfl) (hp 0 (by kernel_rfl)) (hJ.vals 0 _ rfl (hp 0 (by kernel_rfl)))
              have t127 := hf.in (i := 1) (d := 127) (by kernel_rfl) (hp 1 (by kernel_rfl)) (hJ.vals 1 _ rfl (hp 1 (by kernel_rfl)))
              rw [if_pos (by rfl)]
              go_simp
              refine (HAX.out _ hJ.below).mono ?_
              rintro e wA ⟨v, rfl, ho, hbA⟩
              obtain ⟨a, c, hv, hi⟩ := ho.ints
              rw [HXL.out] at hv hi
              exact hK _ _ (hJ.step HOK 2 _ trivial (hbA) (by
                intro f hf hfi
                simp only [List.mem_cons, List.not_mem_nil, or_false] at hf
                rcases hf with rfl | rfl | rfl | rfl
                · exact ⟨a, c, hv, hi, fun b hb => Nat.lt_of_lt_of_le HHK.out (Nat.le_trans hJ.below.size (ho.lt b hb).1)⟩
                · exact absurd (show (5 : Nat) = 2 from hfi) (by decide)
                · exact absurd (show (6 : Nat) = 2 from hfi) (by decide)
                · exact absurd (show (7 : Nat) = 2 from hfi) (by decide)
                ))
            case o21_3 =>
              intro LX V aX wX K hl hp hcl hf hJ hK
              have t16 : aX.tmps[16]? = some (.pointer (some ⟨u, 0, none⟩)) := hf.old (by kernel_rfl) rfl
              rw [if_pos (by rfl)]
              go_simp
              exact hK _ _ (hJ.val HOK 3 _ (by kernel_rfl) rfl (Below.refl _ _))
            case o21_4 =>
              intro LX V aX wX K hl hp hcl hf hJ hK
              have t5 : aX.tmps[5]? = some (.pointer (some ⟨w.heap.size, 0, none⟩)) := hf.old (by kernel_rfl) rfl
              obtain ⟨c0, c1⟩ := HPC7.out wX hJ.below
              rw [if_pos (by rfl)]
              go_simp
              exact hK _ _ (hJ.val HOK 4 _ (by kernel_rfl) rfl (Below.refl _ _))
            case o21_5 =>
              intro LX V aX wX K hl hp hcl hf hJ hK
              have t129 := hf.in (i := 3) (d := 129) (by kernel_rfl) (hp 3 (by kernel_rfl)) (hJ.vals 3 _ rfl (hp 3 (by kernel_rfl)))
              have t130 := hf.in (i := 4) (d := 130) (by kernel_rfl) (hp 4 (by kernel_rfl)) (hJ.vals 4 _ rfl (hp 4 (by kernel_rfl)))
              rw [if_pos (by rfl)]
              go_simp
              refine (HAY.out _ hJ.below).mono ?_
              rintro e wA ⟨v, rfl, ho, hbA⟩
              obtain ⟨a, c, hv, hi⟩ := ho.ints
              rw [HYL.out] at hv hi
              exact hK _ _ (hJ.step HOK 5 _ trivial (hbA) (by
                intro f hf hfi
                simp only [List.mem_cons, List.not_mem_nil, or_false] at hf
                rcases hf with rfl | rfl | rfl | rfl
                · exact absurd (show (2 : Nat) = 5 from hfi) (by decide)
                · exact ⟨a, c, hv, hi, fun b hb => Nat.lt_of_lt_of_le HHK.out (Nat.le_trans hJ.below.size (ho.lt b hb).1)⟩
                · exact absurd (show (6 : Nat) = 5 from hfi) (by decide)
                · exact absurd (show (7 : Nat) = 5 from hfi) (by decide)
                ))
            case o21_6 =>
              intro LX V aX wX K hl hp hcl hf hJ hK
              have t128 := hf.in (i := 2) (d := 128) (by kernel_rfl) (hp 2 (by kernel_rfl)) rfl
              have q0 := hJ.facts ⟨2, fun v w => ∃ x z, v = .slice x m z ∧ IsInts w x m z X ∧ ∀ b, v.ownBlock = some b → hk < b⟩ (List.mem_of_getElem? (i := 0) rfl) (hp 2 (by kernel_rfl))
              obtain ⟨x1, z1, hv1, hi1, hb1⟩ := q0
              rw [hv1] at t128 hb1
              rw [if_pos (by rfl)]
              go_simp
              exact hK _ _ (hJ.step HOK 6 _ trivial (Below.refl _ _) (by
                intro f hf hfi
                simp only [List.mem_cons, List.not_mem_nil, or_false] at hf
                rcases hf with rfl | rfl | rfl | rfl
                · exact absurd (show (2 : Nat) = 6 from hfi) (by decide)
                · exact absurd (show (5 : Nat) = 6 from hfi) (by decide)
                · exact ⟨x1, z1, rfl, hi1, hb1⟩
                · exact absurd (show (7 : Nat) = 6 from hfi) (by decide)
                ))
            case o21_7 =>
              intro LX V aX wX K hl hp hcl hf hJ hK
              have t131 := hf.in (i := 5) (d := 131) (by kernel_rfl) (hp 5 (by kernel_rfl)) rfl
              have q0 := hJ.facts ⟨5, fun v w => ∃ x z, v = .slice x m z ∧ IsInts w x m z Y ∧ ∀ b, v.ownBlock = some b → hk < b⟩ (List.mem_of_getElem? (i := 1) rfl) (hp 5 (by kernel_rfl))
              obtain ⟨x1, z1, hv1, hi1, hb1⟩ := q0
              rw [hv1] at t131 hb1
              rw [if_pos (by rfl)]
              go_simp
              exact hK _ _ (hJ.step HOK 7 _ trivial (Below.refl _ _) (by
                intro f hf hfi
                simp only [List.mem_cons, List.not_mem_nil, or_false] at hf
                rcases hf with rfl | rfl | rfl | rfl
                · exact absurd (show (2 : Nat) = 7 from hfi) (by decide)
                · exact absurd (show (5 : Nat) = 7 from hfi) (by decide)
                · exact absurd (show (6 : Nat) = 7 from hfi) (by decide)
                · exact ⟨x1, z1, rfl, hi1, hb1⟩
                ))
          intro V wZ hJ
          have fx := hJ.facts ⟨6, fun v w => ∃ x z, v = .slice x m z ∧ IsInts w x m z X ∧ ∀ b, v.ownBlock = some b → hk < b⟩ (List.mem_of_getElem? (i := 2) rfl) (by kernel_rfl)
          have fy := hJ.facts ⟨7, fun v w => ∃ x z, v = .slice x m z ∧ IsInts w x m z Y ∧ ∀ b, v.ownBlock = some b → hk < b⟩ (List.mem_of_getElem? (i := 3) rfl) (by kernel_rfl)
          have HBZ := Lib.hid hJ.below
          simp only [puts, Act.put, List.setIfInBounds_toArray, List.set_cons_zero, List.set_cons_succ]
          clear hJ HOK
          obtain ⟨xa, xz, hvx, hix, hbx⟩ := fx
          obtain ⟨ya, yz, hvy, hiy, hby⟩ := fy
          rw [hvx, hvy]
          rw [hvx] at hbx
          rw [hvy] at hby
          have HBX : Hid (∀ b off, xa = some ⟨b, off, none⟩ → b ≠ hk) := Lib.hid (fun b off e => by have := hbx b (by rw [e]; rfl); omega)
          have HBY : Hid (∀ b off, ya = some ⟨b, off, none⟩ → b ≠ hk) := Lib.hid (fun b off e => by have := hby b (by rw [e]; rfl); omega)
          have HS8 : Hid (IsInts wZ xa m xz X ∧ IsInts wZ ya m yz Y ∧ OwnI wZ B (.slice (some ⟨ga, 0, none⟩) n n) A ∧ wZ.rowIs hk 4 n (fun j => .bool (marked A Y 0 j)) ∧ Below W0.heap.size W0 wZ) := Lib.hid ⟨hix, hiy, HMI7.out.later HBZ.out, (HROW.out.of_block (HBZ.out.block _ HHK.out)).congr (fun j _ => by rw [marked_zero]), HB7.out.trans (HBZ.out.mono HB7.out.size)⟩
          have hmz := hiy.2.1
          have hyz : yz ≤ 9223372036854775807 := hiy.2.2.1
          have hmz2 := hix.2.1
          have hxz : xz ≤ 9223372036854775807 := hix.2.2.1
          clear hvx hvy hix hiy hbx hby
          have HKW : Hid (W0.heap.size ≤ hk) := Lib.hid HHKW.out
          go_wp2_with fail
          go_loopw [21] (fun iv wr => ∃ k : Nat, k ≤ m ∧ iv = .int .i64 k ∧ Hid (IsInts wr xa m xz X ∧ IsInts wr ya m yz Y ∧ OwnI wr B (.slice (some ⟨ga, 0, none⟩) n n) A ∧ wr.rowIs hk 4 n (fun j => .bool (marked A Y k j)) ∧ Below W0.heap.size W0 wr)) (fun iv _ => m - (intOf iv).toNat)
          case atStart => exact ⟨0, by omega, rfl, HS8⟩
          case round =>
            obtain ⟨k, hkm, rfl, hst⟩ := hrel
            have HST := hst
            clear hst
            by_cases hlt2 : k < m
            · have hi5 : (k : Int) < (m : Int) := by omega
              have hi0 : (0 : Int) ≤ (k : Int) := by omega
              have hwi : IntKind.i64.wrap ((k : Int) + 1) = (k : Int) + 1 := IntWalk.i64_in _ (by omega)
              obtain ⟨y, hy, hyn⟩ : ∃ y : Nat, Y.getD k 0 = (y : Int) ∧ y < n := by
                have := askB_at (q := atQ p) (M := M) (k := k) (by rw [← HXY.out.2, HYL.out]; exact hlt2)
                rw [← HXY.out.2, HTI.out.len, HN.out] at this
                exact this
              obtain ⟨j, hj, hjn⟩ : ∃ j : Nat, A.getD y 0 = (j : Int) ∧ j < n := by
                have := HTI.out.place (y := y) (by rw [HN.out]; exact hyn)
                rw [HN.out] at this
                exact this
              obtain ⟨yb, yo, hya, cY⟩ := HST.out.2.1.at hlt2
              have hat := (HST.out.2.1.2.2.2.1 (by omega))
              subst hya
              rw [hy] at cY
              have HYJ := Lib.hid (And.intro hy hj)
              have HYK : Hid (∀ wX, Below wr.heap.size wr wX → wX.cell? ⟨yb, yo + k, none⟩ = some (.int .i64 (y : Int))) := Lib.hid (fun wX hX => (hX.cell (p := ⟨yb, yo + k, none⟩) (block_lt_of_cell cY)).trans cY)
              have HYN : Hid ((k : Int) < (m : Int) ∧ (0 : Int) ≤ (k : Int) ∧ ¬ ((y : Int) < 0) ∧ ¬ ((n : Int) ≤ (y : Int))) := Lib.hid ⟨hi5, hi0, by omega, by omega⟩
              have hone : ∀ wX, wr = wX → wX.cell? ⟨yb, yo + k, none⟩ = some (.int .i64 (y : Int)) := fun wX e => e ▸ cY
              have HKJ := Lib.hid hone
              by_cases hk0 : 0 < k
              · obtain ⟨k1, hk1⟩ : ∃ k1 : Nat, k = k1 + 1 := ⟨k - 1, by omega⟩
                obtain ⟨z, hz, hzn⟩ : ∃ z : Nat, Y.getD k1 0 = (z : Int) ∧ z < n := by
                  have := askB_at (q := atQ p) (M := M) (k := k1) (by rw [← HXY.out.2, HYL.out]; omega)
                  rw [← HXY.out.2, HTI.out.len, HN.out] at this
                  exact this
                have hzy : z < y := by
                  have := askB_rise (q := atQ p) (M := M) (k := k1) (by rw [← HXY.out.2, HYL.out]; omega)
                  rw [← HXY.out.2, ← hk1, hy, hz] at this
                  omega
                have HZK : Hid (∀ wX, Below wr.heap.size wr wX → wX.cell? ⟨yb, yo + k1, none⟩ = some (.int .i64 (z : Int))) := Lib.hid (fun wX hX => by
                  obtain ⟨b2, o2, e2, hc2⟩ := hat
                  cases e2
                  have := hc2 k1 (by omega)
                  rw [hz] at this
                  exact (hX.cell (p := ⟨yb, yo + k1, none⟩) (block_lt_of_cell this)).trans this)
                have HYN2 : Hid (((k1 : Int) < (m : Int) ∧ (0 : Int) ≤ (k1 : Int)) ∧ ((0 : Int) < (k : Int)) ∧ IntKind.i64.wrap ((k : Int) - 1) = (k1 : Int) ∧ ¬ ((y : Int) ≤ (z : Int))) := Lib.hid ⟨by omega, by omega, by rw [IntWalk.i64_in _ (by omega)]; omega, by omega⟩
                have HIX2 := Lib.hid (And.intro hi5 (And.intro hi0 (And.intro hwi (And.intro hlt2 (And.intro hyn hjn)))))
                clear hy hj cY hone hat hk1 hz hzn hzy hk0 hyn hjn hkm
                go_wp2_with fail
                clear hi5 hi0 hwi hlt2
                have HOK : ∀ f ∈ ([] : List Fct), FctOk f := by
                  intro f hf; cases hf
                refine wp_region_J (s := [(138, 0), (139, 1), (140, 2), (141, 3), (142, 4), (143, 5), (144, 6), (145, 7), (146, 8), (147, 9), (148, 10), (149, 11), (150, 12), (151, 13), (152, 14), (153, 15), (154, 16), (155, 17), (156, 18), (157, 19), (158, 20), (159, 21), (160, 22), (161, 23), (162, 24), (163, 25), (164, 26), (165, 27), (166, 28), (167, 29)]) (by kernel_rfl) (GrowJ wr (fun iX => match iX with | 0 => some (.slice (some ⟨yb, yo, none⟩) m yz) | 1 => some (.int .i64 (k : Int)) | 2 => some (.pointer (some ⟨yb, yo + k, none⟩)) | 3 => some (.int .i64 (y : Int)) | 4 => some (.bool false) | 5 => some (.bool false) | 6 => some (.slice (some ⟨yb, yo, none⟩) m yz) | 7 => some (.int .i64 (k : Int)) | 8 => some (.pointer (some ⟨yb, yo + k, none⟩)) | 9 => some (.int .i64 (y : Int)) | 10 => some (.slice ai n ci) | 11 => some (.int .i64 (n : Int)) | 12 => some (.bool false) | 13 => some (.bool false) | 14 => some (.bool false) | 15 => some (.int .i64 (k : Int)) | 16 => some (.bool true) | 17 => some (.bool true) | 18 => some (.slice (some ⟨yb, yo, none⟩) m yz) | 19 => some (.int .i64 (k : Int)) | 20 => some (.pointer (some ⟨yb, yo + k, none⟩)) | 21 => some (.int .i64 (y : Int)) | 22 => some (.slice (some ⟨yb, yo, none⟩) m yz) | 23 => some (.int .i64 (k : Int)) | 24 => some (.int .i64 (k1 : Int)) | 25 => some (.pointer (some ⟨yb, yo + k1, none⟩)) | 26 => some (.int .i64 (z : Int)) | 27 => some (.bool false) | 28 => some (.bool false) | 29 => some (.bool false) | _ => none) []) (by kernel_rfl) (by kernel_rfl) (by kernel_rfl) (by kernel_rfl) (fun _ => undef) ?start25a ?step25a ?done25a
                case start25a => exact GrowJ.start ((Below.refl _ _).drew)
                case step25a =>
                  refine ⟨?o25a_0, ?o25a_1, ?o25a_2, ?o25a_3, ?o25a_4, ?o25a_5, ?o25a_6, ?o25a_7, ?o25a_8, ?o25a_9, ?o25a_10, ?o25a_11, ?o25a_12, ?o25a_13, ?o25a_14, ?o25a_15, ?o25a_16, ?o25a_17, ?o25a_18, ?o25a_19, ?o25a_20, ?o25a_21, ?o25a_22, ?o25a_23, ?o25a_24, ?o25a_25, ?o25a_26, ?o25a_27, ?o25a_28, ?o25a_29, trivial⟩
                  case o25a_0 =>
                    intro LX V aX wX K hl hp hcl hf hJ hK
                    have t20 : aX.tmps[20]? = some (.slice (some ⟨yb, yo, none⟩) m yz) := hf.old (by kernel_rfl) rfl
                    rw [if_pos (by rfl)]
                    go_simp
                    exact hK _ _ (hJ.val HOK 0 _ (by kernel_rfl) rfl (Below.refl _ _))
                  case o25a_1 =>
                    intro LX V aX wX K hl hp hcl hf hJ hK
                    have t21 : aX.tmps[21]? = some (.int .i64 (k : Int)) := hf.old (by kernel_rfl) rfl
                    rw [if_pos (by rfl)]
                    go_simp
                    exact hK _ _ (hJ.val HOK 1 _ (by kernel_rfl) rfl (Below.refl _ _))
                  case o25a_2 =>
                    intro LX V aX wX K hl hp hcl hf hJ hK
                    have t138 := hf.in (i := 0) (d := 138) (by kernel_rfl) (hp 0 (by kernel_rfl)) (hJ.vals 0 _ rfl (hp 0 (by kernel_rfl)))
                    have t139 := hf.in (i := 1) (d := 139) (by kernel_rfl) (hp 1 (by kernel_rfl)) (hJ.vals 1 _ rfl (hp 1 (by kernel_rfl)))
                    obtain ⟨y5, y0, y1, y2⟩ := HYN.out
                    rw [if_pos (by rfl)]
                    go_simp
                    exact hK _ _ (hJ.val HOK 2 _ (by kernel_rfl) rfl (Below.refl _ _))
                  case o25a_3 =>
                    intro LX V aX wX K hl hp hcl hf hJ hK
                    have t140 := hf.in (i := 2) (d := 140) (by kernel_rfl) (hp 2 (by kernel_rfl)) (hJ.vals 2 _ rfl (hp 2 (by kernel_rfl)))
                    have cy := HYK.out wX hJ.below
                    rw [if_pos (by rfl)]
                    go_simp
                    exact hK _ _ (hJ.val HOK 3 _ (by kernel_rfl) rfl (Below.refl _ _))
                  case o25a_4 =>
                    intro LX V aX wX K hl hp hcl hf hJ hK
                    have t141 := hf.in (i := 3) (d := 141) (by kernel_rfl) (hp 3 (by kernel_rfl)) (hJ.vals 3 _ rfl (hp 3 (by kernel_rfl)))
                    obtain ⟨y5, y0, y1, y2⟩ := HYN.out
                    rw [if_pos (by rfl)]
                    go_simp
                    exact hK _ _ (hJ.val HOK 4 _ (by kernel_rfl) rfl (Below.refl _ _))
                  case o25a_5 =>
                    intro LX V aX wX K hl hp hcl hf hJ hK
                    have t142 := hf.in (i := 4) (d := 142) (by kernel_rfl) (hp 4 (by kernel_rfl)) (hJ.vals 4 _ rfl (hp 4 (by kernel_rfl)))
                    rw [if_pos (by rfl)]
                    go_simp
                    exact hK _ _ (hJ.val HOK 5 _ (by kernel_rfl) rfl (Below.refl _ _))
                  case o25a_6 =>
                    intro LX V aX wX K hl hp hcl hf hJ hK
                    have t20 : aX.tmps[20]? = some (.slice (some ⟨yb, yo, none⟩) m yz) := hf.old (by kernel_rfl) rfl
                    have t143 := hf.in (i := 5) (d := 143) (by kernel_rfl) (hp 5 (by kernel_rfl)) (hJ.vals 5 _ rfl (hp 5 (by kernel_rfl)))
                    rw [if_pos (wanted_of rfl rfl t143)]
                    go_simp
                    exact hK _ _ (hJ.val HOK 6 _ (by kernel_rfl) rfl (Below.refl _ _))
                  case o25a_7 =>
                    intro LX V aX wX K hl hp hcl hf hJ hK
                    have t21 : aX.tmps[21]? = some (.int .i64 (k : Int)) := hf.old (by kernel_rfl) rfl
                    have t143 := hf.in (i := 5) (d := 143) (by kernel_rfl) (hp 5 (by kernel_rfl)) (hJ.vals 5 _ rfl (hp 5 (by kernel_rfl)))
                    rw [if_pos (wanted_of rfl rfl t143)]
                    go_simp
                    exact hK _ _ (hJ.val HOK 7 _ (by kernel_rfl) rfl (Below.refl _ _))
                  case o25a_8 =>
                    intro LX V aX wX K hl hp hcl hf hJ hK
                    have t144 := hf.in (i := 6) (d := 144) (by kernel_rfl) (hp 6 (by kernel_rfl)) (hJ.vals 6 _ rfl (hp 6 (by kernel_rfl)))
                    have t145 := hf.in (i := 7) (d := 145) (by kernel_rfl) (hp 7 (by kernel_rfl)) (hJ.vals 7 _ rfl (hp 7 (by kernel_rfl)))
                    have t143 := hf.in (i := 5) (d := 143) (by kernel_rfl) (hp 5 (by kernel_rfl)) (hJ.vals 5 _ rfl (hp 5 (by kernel_rfl)))
                    obtain ⟨y5, y0, y1, y2⟩ := HYN.out
                    rw [if_pos (wanted_of rfl rfl t143)]
                    go_simp
                    exact hK _ _ (hJ.val HOK 8 _ (by kernel_rfl) rfl (Below.refl _ _))
                  case o25a_9 =>
                    intro LX V aX wX K hl hp hcl hf hJ hK
                    have t146 := hf.in (i := 8) (d := 146) (by kernel_rfl) (hp 8 (by kernel_rfl)) (hJ.vals 8 _ rfl (hp 8 (by kernel_rfl)))
                    have t143 := hf.in (i := 5) (d := 143) (by kernel_rfl) (hp 5 (by kernel_rfl)) (hJ.vals 5 _ rfl (hp 5 (by kernel_rfl)))
                    have cy := HYK.out wX hJ.below
                    rw [if_pos (wanted_of rfl rfl t143)]
                    go_simp
                    exact hK _ _ (hJ.val HOK 9 _ (by kernel_rfl) rfl (Below.refl _ _))
                  case o25a_10 =>
                    intro LX V aX wX K hl hp hcl hf hJ hK
                    have t8 : aX.tmps[8]? = some (.slice ai n ci) := hf.old (by kernel_rfl) rfl
                    have t143 := hf.in (i := 5) (d := 143) (by kernel_rfl) (hp 5 (by kernel_rfl)) (hJ.vals 5 _ rfl (hp 5 (by kernel_rfl)))
                    rw [if_pos (wanted_of rfl rfl t143)]
                    go_simp
                    exact hK _ _ (hJ.val HOK 10 _ (by kernel_rfl) rfl (Below.refl _ _))
                  case o25a_11 =>
                    intro LX V aX wX K hl hp hcl hf hJ hK
                    have t148 := hf.in (i := 10) (d := 148) (by kernel_rfl) (hp 10 (by kernel_rfl)) (hJ.vals 10 _ rfl (hp 10 (by kernel_rfl)))
                    have t143 := hf.in (i := 5) (d := 143) (by kernel_rfl) (hp 5 (by kernel_rfl)) (hJ.vals 5 _ rfl (hp 5 (by kernel_rfl)))
                    rw [if_pos (wanted_of rfl rfl t143)]
                    go_simp
                    exact hK _ _ (hJ.val HOK 11 _ (by kernel_rfl) rfl (Below.refl _ _))
                  case o25a_12 =>
                    intro LX V aX wX K hl hp hcl hf hJ hK
                    have t147 := hf.in (i := 9) (d := 147) (by kernel_rfl) (hp 9 (by kernel_rfl)) (hJ.vals 9 _ rfl (hp 9 (by kernel_rfl)))
                    have t149 := hf.in (i := 11) (d := 149) (by kernel_rfl) (hp 11 (by kernel_rfl)) (hJ.vals 11 _ rfl (hp 11 (by kernel_rfl)))
                    have t143 := hf.in (i := 5) (d := 143) (by kernel_rfl) (hp 5 (by kernel_rfl)) (hJ.vals 5 _ rfl (hp 5 (by kernel_rfl)))
                    obtain ⟨y5, y0, y1, y2⟩ := HYN.out
                    have q1 : decide ((n : Int) ≤ (y : Int)) = false := by simp; omega
                    have q2 : decide (n ≤ y) = false := by simp; omega
                    clear y2
                    rw [if_pos (wanted_of rfl rfl t143)]
                    go_simp
                    exact hK _ _ (hJ.val HOK 12 _ (by kernel_rfl) rfl (Below.refl _ _))
                  case o25a_13 =>
                    intro LX V aX wX K hl hp hcl hf hJ hK
                    have t143 := hf.in (i := 5) (d := 143) (by kernel_rfl) (hp 5 (by kernel_rfl)) (hJ.vals 5 _ rfl (hp 5 (by kernel_rfl)))
                    have t150 := hf.in (i := 12) (d := 150) (by kernel_rfl) (hp 12 (by kernel_rfl)) (hJ.vals 12 _ rfl (hp 12 (by kernel_rfl)))
                    rw [if_pos (by rfl)]
                    go_simp
                    exact hK _ _ (hJ.val HOK 13 _ (by kernel_rfl) rfl (Below.refl _ _))
                  case o25a_14 =>
                    intro LX V aX wX K hl hp hcl hf hJ hK
                    have t151 := hf.in (i := 13) (d := 151) (by kernel_rfl) (hp 13 (by kernel_rfl)) (hJ.vals 13 _ rfl (hp 13 (by kernel_rfl)))
                    rw [if_pos (by rfl)]
                    go_simp
                    exact hK _ _ (hJ.val HOK 14 _ (by kernel_rfl) rfl (Below.refl _ _))
                  case o25a_15 =>
                    intro LX V aX wX K hl hp hcl hf hJ hK
                    have t21 : aX.tmps[21]? = some (.int .i64 (k : Int)) := hf.old (by kernel_rfl) rfl
                    have t152 := hf.in (i := 14) (d := 152) (by kernel_rfl) (hp 14 (by kernel_rfl)) (hJ.vals 14 _ rfl (hp 14 (by kernel_rfl)))
                    rw [if_pos (wanted_of rfl rfl t152)]
                    go_simp
                    exact hK _ _ (hJ.val HOK 15 _ (by kernel_rfl) rfl (Below.refl _ _))
                  case o25a_16 =>
                    intro LX V aX wX K hl hp hcl hf hJ hK
                    have t153 := hf.in (i := 15) (d := 153) (by kernel_rfl) (hp 15 (by kernel_rfl)) (hJ.vals 15 _ rfl (hp 15 (by kernel_rfl)))
                    have t152 := hf.in (i := 14) (d := 152) (by kernel_rfl) (hp 14 (by kernel_rfl)) (hJ.vals 14 _ rfl (hp 14 (by kernel_rfl)))
                    obtain ⟨⟨z5, z0⟩, z1, z2, z3⟩ := HYN2.out
                    have z4 : 0 < k := by omega
                    rw [if_pos (wanted_of rfl rfl t152)]
                    go_simp
                    exact hK _ _ (hJ.val HOK 16 _ (by kernel_rfl) rfl (Below.refl _ _))
                  case o25a_17 =>
                    intro LX V aX wX K hl hp hcl hf hJ hK
                    have t154 := hf.in (i := 16) (d := 154) (by kernel_rfl) (hp 16 (by kernel_rfl)) (hJ.vals 16 _ rfl (hp 16 (by kernel_rfl)))
                    have t152 := hf.in (i := 14) (d := 152) (by kernel_rfl) (hp 14 (by kernel_rfl)) (hJ.vals 14 _ rfl (hp 14 (by kernel_rfl)))
                    rw [if_pos (wanted_of rfl rfl t152)]
                    go_simp
                    exact hK _ _ (hJ.val HOK 17 _ (by kernel_rfl) rfl (Below.refl _ _))
                  case o25a_18 =>
                    intro LX V aX wX K hl hp hcl hf hJ hK
                    have t20 : aX.tmps[20]? = some (.slice (some ⟨yb, yo, none⟩) m yz) := hf.old (by kernel_rfl) rfl
                    have t155 := hf.in (i := 17) (d := 155) (by kernel_rfl) (hp 17 (by kernel_rfl)) (hJ.vals 17 _ rfl (hp 17 (by kernel_rfl)))
                    rw [if_pos (wanted_of rfl rfl t155)]
                    go_simp
                    exact hK _ _ (hJ.val HOK 18 _ (by kernel_rfl) rfl (Below.refl _ _))
                  case o25a_19 =>
                    intro LX V aX wX K hl hp hcl hf hJ hK
                    have t21 : aX.tmps[21]? = some (.int .i64 (k : Int)) := hf.old (by kernel_rfl) rfl
                    have t155 := hf.in (i := 17) (d := 155) (by kernel_rfl) (hp 17 (by kernel_rfl)) (hJ.vals 17 _ rfl (hp 17 (by kernel_rfl)))
                    rw [if_pos (wanted_of rfl rfl t155)]
                    go_simp
                    exact hK _ _ (hJ.val HOK 19 _ (by kernel_rfl) rfl (Below.refl _ _))
                  case o25a_20 =>
                    intro LX V aX wX K hl hp hcl hf hJ hK
                    have t156 := hf.in (i := 18) (d := 156) (by kernel_rfl) (hp 18 (by kernel_rfl)) (hJ.vals 18 _ rfl (hp 18 (by kernel_rfl)))
                    have t157 := hf.in (i := 19) (d := 157) (by kernel_rfl) (hp 19 (by kernel_rfl)) (hJ.vals 19 _ rfl (hp 19 (by kernel_rfl)))
                    have t155 := hf.in (i := 17) (d := 155) (by kernel_rfl) (hp 17 (by kernel_rfl)) (hJ.vals 17 _ rfl (hp 17 (by kernel_rfl)))
                    obtain ⟨y5, y0, y1, y2⟩ := HYN.out
                    rw [if_pos (wanted_of rfl rfl t155)]
                    go_simp
                    exact hK _ _ (hJ.val HOK 20 _ (by kernel_rfl) rfl (Below.refl _ _))
                  case o25a_21 =>
                    intro LX V aX wX K hl hp hcl hf hJ hK
                    have t158 := hf.in (i := 20) (d := 158) (by kernel_rfl) (hp 20 (by kernel_rfl)) (hJ.vals 20 _ rfl (hp 20 (by kernel_rfl)))
                    have t155 := hf.in (i := 17) (d := 155) (by kernel_rfl) (hp 17 (by kernel_rfl)) (hJ.vals 17 _ rfl (hp 17 (by kernel_rfl)))
                    have cy := HYK.out wX hJ.below
                    rw [if_pos (wanted_of rfl rfl t155)]
                    go_simp
                    exact hK _ _ (hJ.val HOK 21 _ (by kernel_rfl) rfl (Below.refl _ _))
                  case o25a_22 =>
                    intro LX V aX wX K hl hp hcl hf hJ hK
                    have t20 : aX.tmps[20]? = some (.slice (some ⟨yb, yo, none⟩) m yz) := hf.old (by kernel_rfl) rfl
                    have t155 := hf.in (i := 17) (d := 155) (by kernel_rfl) (hp 17 (by kernel_rfl)) (hJ.vals 17 _ rfl (hp 17 (by kernel_rfl)))
                    rw [if_pos (wanted_of rfl rfl t155)]
                    go_simp
                    exact hK _ _ (hJ.val HOK 22 _ (by kernel_rfl) rfl (Below.refl _ _))
                  case o25a_23 =>
                    intro LX V aX wX K hl hp hcl hf hJ hK
                    have t21 : aX.tmps[21]? = some (.int .i64 (k : Int)) := hf.old (by kernel_rfl) rfl
                    have t155 := hf.in (i := 17) (d := 155) (by kernel_rfl) (hp 17 (by kernel_rfl)) (hJ.vals 17 _ rfl (hp 17 (by kernel_rfl)))
                    rw [if_pos (wanted_of rfl rfl t155)]
                    go_simp
                    exact hK _ _ (hJ.val HOK 23 _ (by kernel_rfl) rfl (Below.refl _ _))
                  case o25a_24 =>
                    intro LX V aX wX K hl hp hcl hf hJ hK
                    have t161 := hf.in (i := 23) (d := 161) (by kernel_rfl) (hp 23 (by kernel_rfl)) (hJ.vals 23 _ rfl (hp 23 (by kernel_rfl)))
                    have t155 := hf.in (i := 17) (d := 155) (by kernel_rfl) (hp 17 (by kernel_rfl)) (hJ.vals 17 _ rfl (hp 17 (by kernel_rfl)))
                    obtain ⟨⟨z5, z0⟩, z1, z2, z3⟩ := HYN2.out
                    rw [if_pos (wanted_of rfl rfl t155)]
                    go_simp
                    exact hK _ _ (hJ.val HOK 24 _ (by kernel_rfl) rfl (Below.refl _ _))
                  case o25a_25 =>
                    intro LX V aX wX K hl hp hcl hf hJ hK
                    have t160 := hf.in (i := 22) (d := 160) (by kernel_rfl) (hp 22 (by kernel_rfl)) (hJ.vals 22 _ rfl (hp 22 (by kernel_rfl)))
                    have t162 := hf.in (i := 24) (d := 162) (by kernel_rfl) (hp 24 (by kernel_rfl)) (hJ.vals 24 _ rfl (hp 24 (by kernel_rfl)))
                    have t155 := hf.in (i := 17) (d := 155) (by kernel_rfl) (hp 17 (by kernel_rfl)) (hJ.vals 17 _ rfl (hp 17 (by kernel_rfl)))
                    obtain ⟨⟨z5, z0⟩, z1, z2, z3⟩ := HYN2.out
                    rw [if_pos (wanted_of rfl rfl t155)]
                    go_simp
                    exact hK _ _ (hJ.val HOK 25 _ (by kernel_rfl) rfl (Below.refl _ _))
                  case o25a_26 =>
                    intro LX V aX wX K hl hp hcl hf hJ hK
                    have t163 := hf.in (i := 25) (d := 163) (by kernel_rfl) (hp 25 (by kernel_rfl)) (hJ.vals 25 _ rfl (hp 25 (by kernel_rfl)))
                    have t155 := hf.in (i := 17) (d := 155) (by kernel_rfl) (hp 17 (by kernel_rfl)) (hJ.vals 17 _ rfl (hp 17 (by kernel_rfl)))
                    have cz := HZK.out wX hJ.below
                    rw [if_pos (wanted_of rfl rfl t155)]
                    go_simp
                    exact hK _ _ (hJ.val HOK 26 _ (by kernel_rfl) rfl (Below.refl _ _))
                  case o25a_27 =>
                    intro LX V aX wX K hl hp hcl hf hJ hK
                    have t159 := hf.in (i := 21) (d := 159) (by kernel_rfl) (hp 21 (by kernel_rfl)) (hJ.vals 21 _ rfl (hp 21 (by kernel_rfl)))
                    have t164 := hf.in (i := 26) (d := 164) (by kernel_rfl) (hp 26 (by kernel_rfl)) (hJ.vals 26 _ rfl (hp 26 (by kernel_rfl)))
                    have t155 := hf.in (i := 17) (d := 155) (by kernel_rfl) (hp 17 (by kernel_rfl)) (hJ.vals 17 _ rfl (hp 17 (by kernel_rfl)))
                    obtain ⟨⟨z5, z0⟩, z1, z2, z3⟩ := HYN2.out
                    have q1 : decide ((y : Int) ≤ (z : Int)) = false := by simp; omega
                    have q2 : decide (y ≤ z) = false := by simp; omega
                    clear z3
                    rw [if_pos (wanted_of rfl rfl t155)]
                    go_simp
                    exact hK _ _ (hJ.val HOK 27 _ (by kernel_rfl) rfl (Below.refl _ _))
                  case o25a_28 =>
                    intro LX V aX wX K hl hp hcl hf hJ hK
                    have t155 := hf.in (i := 17) (d := 155) (by kernel_rfl) (hp 17 (by kernel_rfl)) (hJ.vals 17 _ rfl (hp 17 (by kernel_rfl)))
                    have t165 := hf.in (i := 27) (d := 165) (by kernel_rfl) (hp 27 (by kernel_rfl)) (hJ.vals 27 _ rfl (hp 27 (by kernel_rfl)))
                    have t152 := hf.in (i := 14) (d := 152) (by kernel_rfl) (hp 14 (by kernel_rfl)) (hJ.vals 14 _ rfl (hp 14 (by kernel_rfl)))
                    rw [if_pos (wanted_of rfl rfl t152)]
                    go_simp
                    exact hK _ _ (hJ.val HOK 28 _ (by kernel_rfl) rfl (Below.refl _ _))
                  case o25a_29 =>
                    intro LX V aX wX K hl hp hcl hf hJ hK
                    have t152 := hf.in (i := 14) (d := 152) (by kernel_rfl) (hp 14 (by kernel_rfl)) (hJ.vals 14 _ rfl (hp 14 (by kernel_rfl)))
                    have t166 := hf.in (i := 28) (d := 166) (by kernel_rfl) (hp 28 (by kernel_rfl)) (hJ.vals 28 _ rfl (hp 28 (by kernel_rfl)))
                    rw [if_pos (by rfl)]
                    go_simp
                    exact hK _ _ (hJ.val HOK 29 _ (by kernel_rfl) rfl (Below.refl _ _))
                intro V wZ hJ
                have hv := hJ.vals 29 _ rfl (by kernel_rfl)
                have HBZ := Lib.hid hJ.below
                simp only [puts, Act.put, List.setIfInBounds_toArray, List.set_cons_zero, List.set_cons_succ]
                rw [hv]
                clear hJ HOK hv
                have HSTZ : Hid (IsInts wZ xa m xz X ∧ IsInts wZ (some ⟨yb, yo, none⟩) m yz Y ∧ OwnI wZ B (.slice (some ⟨ga, 0, none⟩) n n) A ∧ wZ.rowIs hk 4 n (fun j => .bool (marked A Y k j)) ∧ Below W0.heap.size W0 wZ) := Lib.hid ⟨HST.out.1.later HBZ.out (Nat.le_refl _), HST.out.2.1.later HBZ.out (Nat.le_refl _), HST.out.2.2.1.later HBZ.out, HST.out.2.2.2.1.of_block (HBZ.out.block _ (rowIs_lt HST.out.2.2.2.1)), HST.out.2.2.2.2.trans (HBZ.out.mono HST.out.2.2.2.2.size)⟩
                obtain ⟨hi5, hi0, hwi, hlt2, hyn, hjn⟩ := HIX2.out
                have cY := HYK.out wZ HBZ.out
                have cA := HSTZ.out.2.2.1.cellAt (HTI.out.alen.trans HN.out) hyn
                rw [HYJ.out.2] at cA
                have fH := HSTZ.out.2.2.2.1.frozen j
                have x0 : (0 : Int) ≤ (y : Int) := by omega
                have x1 : (y : Int) < (n : Int) := by omega
                have x2 : (0 : Int) ≤ (j : Int) := by omega
                have x3 : (j : Int) < (n : Int) := by omega
                have cH := HSTZ.out.2.2.2.1.cell hjn
                obtain ⟨mq, hmq⟩ : ∃ q, q = marked A Y k j := ⟨_, rfl⟩
                rw [← hmq] at cH
                clear hmq
                go_wp2_with fail
                go_roundw
                case rel =>
                  refine ⟨k + 1, by omega, by go_num, Lib.hid ⟨HSTZ.out.1.setOther HBX.out, HSTZ.out.2.1.setOther HBY.out, HSTZ.out.2.2.1.byB HSTZ.out.2.2.2.1, (HSTZ.out.2.2.2.1.set j (.bool true)).congr (fun i hi' => ?_), HSTZ.out.2.2.2.2.setCell (p := ⟨hk, j, none⟩) HKW.out _⟩⟩
                  rw [marked_step (by rw [HYL.out]; exact hlt2) HYJ.out.1 HYJ.out.2 i]
                  by_cases hij : i = j
                  · rw [if_pos hij, if_pos hij]
                  · rw [if_neg hij, if_neg hij]
                case measure => simp [intOf]; omega
              · have hk0' : ¬ (0 : Int) < (k : Int) := by omega
                have HK0 := Lib.hid hk0'
                have HIX2 := Lib.hid (And.intro hi5 (And.intro hi0 (And.intro hwi (And.intro hlt2 (And.intro hyn hjn)))))
                clear hy hj cY hone hat hk0 hk0' hyn hjn hkm
                go_wp2_with fail
                clear hi5 hi0 hwi hlt2
                have HOK : ∀ f ∈ ([] : List Fct), FctOk f := by
                  intro f hf; cases hf
                refine wp_region_J (s := [(138, 0), (139, 1), (140, 2), (141, 3), (142, 4), (143, 5), (144, 6), (145, 7), (146, 8), (147, 9), (148, 10), (149, 11), (150, 12), (151, 13), (152, 14), (153, 15), (154, 16), (155, 17), (156, 18), (157, 19), (158, 20), (159, 21), (160, 22), (161, 23), (162, 24), (163, 25), (164, 26), (165, 27), (166, 28), (167, 29)]) (by kernel_rfl) (GrowJ wr (fun iX => match iX with | 0 => some (.slice (some ⟨yb, yo, none⟩) m yz) | 1 => some (.int .i64 (k : Int)) | 2 => some (.pointer (some ⟨yb, yo + k, none⟩)) | 3 => some (.int .i64 (y : Int)) | 4 => some (.bool false) | 5 => some (.bool false) | 6 => some (.slice (some ⟨yb, yo, none⟩) m yz) | 7 => some (.int .i64 (k : Int)) | 8 => some (.pointer (some ⟨yb, yo + k, none⟩)) | 9 => some (.int .i64 (y : Int)) | 10 => some (.slice ai n ci) | 11 => some (.int .i64 (n : Int)) | 12 => some (.bool false) | 13 => some (.bool false) | 14 => some (.bool false) | 15 => some (.int .i64 (k : Int)) | 16 => some (.bool false) | 17 => some (.bool false) | 18 => some (undef) | 19 => some (undef) | 20 => some (undef) | 21 => some (undef) | 22 => some (undef) | 23 => some (undef) | 24 => some (undef) | 25 => some (undef) | 26 => some (undef) | 27 => some (undef) | 28 => some (.bool false) | 29 => some (.bool false) | _ => none) []) (by kernel_rfl) (by kernel_rfl) (by kernel_rfl) (by kernel_rfl) (fun _ => undef) ?start25b ?step25b ?done25b
                case start25b => exact GrowJ.start ((Below.refl _ _).drew)
                case step25b =>
                  refine ⟨?o25b_0, ?o25b_1, ?o25b_2, ?o25b_3, ?o25b_4, ?o25b_5, ?o25b_6, ?o25b_7, ?o25b_8, ?o25b_9, ?o25b_10, ?o25b_11, ?o25b_12, ?o25b_13, ?o25b_14, ?o25b_15, ?o25b_16, ?o25b_17, ?o25b_18, ?o25b_19, ?o25b_20, ?o25b_21, ?o25b_22, ?o25b_23, ?o25b_24, ?o25b_25, ?o25b_26, ?o25b_27, ?o25b_28, ?o25b_29, trivial⟩
                  case o25b_0 =>
                    intro LX V aX wX K hl hp hcl hf hJ hK
                    have t20 : aX.tmps[20]? = some (.slice (some ⟨yb, yo, none⟩) m yz) := hf.old (by kernel_rfl) rfl
                    rw [if_pos (by rfl)]
                    go_simp
                    exact hK _ _ (hJ.val HOK 0 _ (by kernel_rfl) rfl (Below.refl _ _))
                  case o25b_1 =>
                    intro LX V aX wX K hl hp hcl hf hJ hK
                    have t21 : aX.tmps[21]? = some (.int .i64 (k : Int)) := hf.old (by kernel_rfl) rfl
                    rw [if_pos (by rfl)]
                    go_simp
                    exact hK _ _ (hJ.val HOK 1 _ (by kernel_rfl) rfl (Below.refl _ _))
                  case o25b_2 =>
                    intro LX V aX wX K hl hp hcl hf hJ hK
                    have t138 := hf.in (i := 0) (d := 138) (by kernel_rfl) (hp 0 (by kernel_rfl)) (hJ.vals 0 _ rfl (hp 0 (by kernel_rfl)))
                    have t139 := hf.in (i := 1) (d := 139) (by kernel_rfl) (hp 1 (by kernel_rfl)) (hJ.vals 1 _ rfl (hp 1 (by kernel_rfl)))
                    obtain ⟨y5, y0, y1, y2⟩ := HYN.out
                    rw [if_pos (by rfl)]
                    go_simp
                    exact hK _ _ (hJ.val HOK 2 _ (by kernel_rfl) rfl (Below.refl _ _))
                  case o25b_3 =>
                    intro LX V aX wX K hl hp hcl hf hJ hK
                    have t140 := hf.in (i := 2) (d := 140) (by kernel_rfl) (hp 2 (by kernel_rfl)) (hJ.vals 2 _ rfl (hp 2 (by kernel_rfl)))
                    have cy := HYK.out wX hJ.below
                    rw [if_pos (by rfl)]
                    go_simp
                    exact hK _ _ (hJ.val HOK 3 _ (by kernel_rfl) rfl (Below.refl _ _))
                  case o25b_4 =>
                    intro LX V aX wX K hl hp hcl hf hJ hK
                    have t141 := hf.in (i := 3) (d := 141) (by kernel_rfl) (hp 3 (by kernel_rfl)) (hJ.vals 3 _ rfl (hp 3 (by kernel_rfl)))
                    obtain ⟨y5, y0, y1, y2⟩ := HYN.out
                    rw [if_pos (by rfl)]
                    go_simp
                    exact hK _ _ (hJ.val HOK 4 _ (by kernel_rfl) rfl (Below.refl _ _))
                  case o25b_5 =>
                    intro LX V aX wX K hl hp hcl hf hJ hK
                    have t142 := hf.in (i := 4) (d := 142) (by kernel_rfl) (hp 4 (by kernel_rfl)) (hJ.vals 4 _ rfl (hp 4 (by kernel_rfl)))
                    rw [if_pos (by rfl)]
                    go_simp
                    exact hK _ _ (hJ.val HOK 5 _ (by kernel_rfl) rfl (Below.refl _ _))
                  case o25b_6 =>
                    intro LX V aX wX K hl hp hcl hf hJ hK
                    have t20 : aX.tmps[20]? = some (.slice (some ⟨yb, yo, none⟩) m yz) := hf.old (by kernel_rfl) rfl
                    have t143 := hf.in (i := 5) (d := 143) (by kernel_rfl) (hp 5 (by kernel_rfl)) (hJ.vals 5 _ rfl (hp 5 (by kernel_rfl)))
                    rw [if_pos (wanted_of rfl rfl t143)]
                    go_simp
                    exact hK _ _ (hJ.val HOK 6 _ (by kernel_rfl) rfl (Below.refl _ _))
                  case o25b_7 =>
                    intro LX V aX wX K hl hp hcl hf hJ hK
                    have t21 : aX.tmps[21]? = some (.int .i64 (k : Int)) := hf.old (by kernel_rfl) rfl
                    have t143 := hf.in (i := 5) (d := 143) (by kernel_rfl) (hp 5 (by kernel_rfl)) (hJ.vals 5 _ rfl (hp 5 (by kernel_rfl)))
                    rw [if_pos (wanted_of rfl rfl t143)]
                    go_simp
                    exact hK _ _ (hJ.val HOK 7 _ (by kernel_rfl) rfl (Below.refl _ _))
                  case o25b_8 =>
                    intro LX V aX wX K hl hp hcl hf hJ hK
                    have t144 := hf.in (i := 6) (d := 144) (by kernel_rfl) (hp 6 (by kernel_rfl)) (hJ.vals 6 _ rfl (hp 6 (by kernel_rfl)))
                    have t145 := hf.in (i := 7) (d := 145) (by kernel_rfl) (hp 7 (by kernel_rfl)) (hJ.vals 7 _ rfl (hp 7 (by kernel_rfl)))
                    have t143 := hf.in (i := 5) (d := 143) (by kernel_rfl) (hp 5 (by kernel_rfl)) (hJ.vals 5 _ rfl (hp 5 (by kernel_rfl)))
                    obtain ⟨y5, y0, y1, y2⟩ := HYN.out
                    rw [if_pos (wanted_of rfl rfl t143)]
                    go_simp
                    exact hK _ _ (hJ.val HOK 8 _ (by kernel_rfl) rfl (Below.refl _ _))
                  case o25b_9 =>
                    intro LX V aX wX K hl hp hcl hf hJ hK
                    have t146 := hf.in (i := 8) (d := 146) (by kernel_rfl) (hp 8 (by kernel_rfl)) (hJ.vals 8 _ rfl (hp 8 (by kernel_rfl)))
                    have t143 := hf.in (i := 5) (d := 143) (by kernel_rfl) (hp 5 (by kernel_rfl)) (hJ.vals 5 _ rfl (hp 5 (by kernel_rfl)))
                    have cy := HYK.out wX hJ.below
                    rw [if_pos (wanted_of rfl rfl t143)]
                    go_simp
                    exact hK _ _ (hJ.val HOK 9 _ (by kernel_rfl) rfl (Below.refl _ _))
                  case o25b_10 =>
                    intro LX V aX wX K hl hp hcl hf hJ hK
                    have t8 : aX.tmps[8]? = some (.slice ai n ci) := hf.old (by kernel_rfl) rfl
                    have t143 := hf.in (i := 5) (d := 143) (by kernel_rfl) (hp 5 (by kernel_rfl)) (hJ.vals 5 _ rfl (hp 5 (by kernel_rfl)))
                    rw [if_pos (wanted_of rfl rfl t143)]
                    go_simp
                    exact hK _ _ (hJ.val HOK 10 _ (by kernel_rfl) rfl (Below.refl _ _))
                  case o25b_11 =>
                    intro LX V aX wX K hl hp hcl hf hJ hK
                    have t148 := hf.in (i := 10) (d := 148) (by kernel_rfl) (hp 10 (by kernel_rfl)) (hJ.vals 10 _ rfl (hp 10 (by kernel_rfl)))
                    have t143 := hf.in (i := 5) (d := 143) (by kernel_rfl) (hp 5 (by kernel_rfl)) (hJ.vals 5 _ rfl (hp 5 (by kernel_rfl)))
                    rw [if_pos (wanted_of rfl rfl t143)]
                    go_simp
                    exact hK _ _ (hJ.val HOK 11 _ (by kernel_rfl) rfl (Below.refl _ _))
                  case o25b_12 =>
                    intro LX V aX wX K hl hp hcl hf hJ hK
                    have t147 := hf.in (i := 9) (d := 147) (by kernel_rfl) (hp 9 (by kernel_rfl)) (hJ.vals 9 _ rfl (hp 9 (by kernel_rfl)))
                    have t149 := hf.in (i := 11) (d := 149) (by kernel_rfl) (hp 11 (by kernel_rfl)) (hJ.vals 11 _ rfl (hp 11 (by kernel_rfl)))
                    have t143 := hf.in (i := 5) (d := 143) (by kernel_rfl) (hp 5 (by kernel_rfl)) (hJ.vals 5 _ rfl (hp 5 (by kernel_rfl)))
                    obtain ⟨y5, y0, y1, y2⟩ := HYN.out
                    have q1 : decide ((n : Int) ≤ (y : Int)) = false := by simp; omega
                    have q2 : decide (n ≤ y) = false := by simp; omega
                    clear y2
                    rw [if_pos (wanted_of rfl rfl t143)]
                    go_simp
                    exact hK _ _ (hJ.val HOK 12 _ (by kernel_rfl) rfl (Below.refl _ _))
                  case o25b_13 =>
                    intro LX V aX wX K hl hp hcl hf hJ hK
                    have t143 := hf.in (i := 5) (d := 143) (by kernel_rfl) (hp 5 (by kernel_rfl)) (hJ.vals 5 _ rfl (hp 5 (by kernel_rfl)))
                    have t150 := hf.in (i := 12) (d := 150) (by kernel_rfl) (hp 12 (by kernel_rfl)) (hJ.vals 12 _ rfl (hp 12 (by kernel_rfl)))
                    rw [if_pos (by rfl)]
                    go_simp
                    exact hK _ _ (hJ.val HOK 13 _ (by kernel_rfl) rfl (Below.refl _ _))
                  case o25b_14 =>
                    intro LX V aX wX K hl hp hcl hf hJ hK
                    have t151 := hf.in (i := 13) (d := 151) (by kernel_rfl) (hp 13 (by kernel_rfl)) (hJ.vals 13 _ rfl (hp 13 (by kernel_rfl)))
                    rw [if_pos (by rfl)]
                    go_simp
                    exact hK _ _ (hJ.val HOK 14 _ (by kernel_rfl) rfl (Below.refl _ _))
                  case o25b_15 =>
                    intro LX V aX wX K hl hp hcl hf hJ hK
                    have t21 : aX.tmps[21]? = some (.int .i64 (k : Int)) := hf.old (by kernel_rfl) rfl
                    have t152 := hf.in (i := 14) (d := 152) (by kernel_rfl) (hp 14 (by kernel_rfl)) (hJ.vals 14 _ rfl (hp 14 (by kernel_rfl)))
                    rw [if_pos (wanted_of rfl rfl t152)]
                    go_simp
                    exact hK _ _ (hJ.val HOK 15 _ (by kernel_rfl) rfl (Below.refl _ _))
                  case o25b_16 =>
                    intro LX V aX wX K hl hp hcl hf hJ hK
                    have t153 := hf.in (i := 15) (d := 153) (by kernel_rfl) (hp 15 (by kernel_rfl)) (hJ.vals 15 _ rfl (hp 15 (by kernel_rfl)))
                    have t152 := hf.in (i := 14) (d := 152) (by kernel_rfl) (hp 14 (by kernel_rfl)) (hJ.vals 14 _ rfl (hp 14 (by kernel_rfl)))
                    have hk0 := HK0.out
                    have hk1 : decide ((0 : Int) < (k : Int)) = false := by simp; omega
                    have hk2 : decide (0 < k) = false := by simp; omega
                    clear hk0
                    rw [if_pos (wanted_of rfl rfl t152)]
                    go_simp
                    exact hK _ _ (hJ.val HOK 16 _ (by kernel_rfl) rfl (Below.refl _ _))
                  case o25b_17 =>
                    intro LX V aX wX K hl hp hcl hf hJ hK
                    have t154 := hf.in (i := 16) (d := 154) (by kernel_rfl) (hp 16 (by kernel_rfl)) (hJ.vals 16 _ rfl (hp 16 (by kernel_rfl)))
                    have t152 := hf.in (i := 14) (d := 152) (by kernel_rfl) (hp 14 (by kernel_rfl)) (hJ.vals 14 _ rfl (hp 14 (by kernel_rfl)))
                    rw [if_pos (wanted_of rfl rfl t152)]
                    go_simp
                    exact hK _ _ (hJ.val HOK 17 _ (by kernel_rfl) rfl (Below.refl _ _))
                  case o25b_18 =>
                    intro LX V aX wX K hl hp hcl hf hJ hK
                    have t155 := hf.in (i := 17) (d := 155) (by kernel_rfl) (hp 17 (by kernel_rfl)) (hJ.vals 17 _ rfl (hp 17 (by kernel_rfl)))
                    rw [if_neg (by rw [wanted_not (b := true) rfl rfl t155]; exact Bool.false_ne_true)]
                    exact hK _ _ (hJ.val HOK 18 _ (by kernel_rfl) rfl (Below.refl _ _))
                  case o25b_19 =>
                    intro LX V aX wX K hl hp hcl hf hJ hK
                    have t155 := hf.in (i := 17) (d := 155) (by kernel_rfl) (hp 17 (by kernel_rfl)) (hJ.vals 17 _ rfl (hp 17 (by kernel_rfl)))
                    rw [if_neg (by rw [wanted_not (b := true) rfl rfl t155]; exact Bool.false_ne_true)]
                    exact hK _ _ (hJ.val HOK 19 _ (by kernel_rfl) rfl (Below.refl _ _))
                  case o25b_20 =>
                    intro LX V aX wX K hl hp hcl hf hJ hK
                    have t155 := hf.in (i := 17) (d := 155) (by kernel_rfl) (hp 17 (by kernel_rfl)) (hJ.vals 17 _ rfl (hp 17 (by kernel_rfl)))
                    rw [if_neg (by rw [wanted_not (b := true) rfl rfl t155]; exact Bool.false_ne_true)]
                    exact hK _ _ (hJ.val HOK 20 _ (by kernel_rfl) rfl (Below.refl _ _))
                  case o25b_21 =>
                    intro LX V aX wX K hl hp hcl hf hJ hK
                    have t155 := hf.in (i := 17) (d := 155) (by kernel_rfl) (hp 17 (by kernel_rfl)) (hJ.vals 17 _ rfl (hp 17 (by kernel_rfl)))
                    rw [if_neg (by rw [wanted_not (b := true) rfl rfl t155]; exact Bool.false_ne_true)]
                    exact hK _ _ (hJ.val HOK 21 _ (by kernel_rfl) rfl (Below.refl _ _))
                  case o25b_22 =>
                    intro LX V aX wX K hl hp hcl hf hJ hK
                    have t155 := hf.in (i := 17) (d := 155) (by kernel_rfl) (hp 17 (by kernel_rfl)) (hJ.vals 17 _ rfl (hp 17 (by kernel_rfl)))
                    rw [if_neg (by rw [wanted_not (b := true) rfl rfl t155]; exact Bool.false_ne_true)]
                    exact hK _ _ (hJ.val HOK 22 _ (by kernel_rfl) rfl (Below.refl _ _))
                  case o25b_23 =>
                    intro LX V aX wX K hl hp hcl hf hJ hK
                    have t155 := hf.in (i := 17) (d := 155) (by kernel_rfl) (hp 17 (by kernel_rfl)) (hJ.vals 17 _ rfl (hp 17 (by kernel_rfl)))
                    rw [if_neg (by rw [wanted_not (b := true) rfl rfl t155]; exact Bool.false_ne_true)]
                    exact hK _ _ (hJ.val HOK 23 _ (by kernel_rfl) rfl (Below.refl _ _))
                  case o25b_24 =>
                    intro LX V aX wX K hl hp hcl hf hJ hK
                    have t155 := hf.in (i := 17) (d := 155) (by kernel_rfl) (hp 17 (by kernel_rfl)) (hJ.vals 17 _ rfl (hp 17 (by kernel_rfl)))
                    rw [if_neg (by rw [wanted_not (b := true) rfl rfl t155]; exact Bool.false_ne_true)]
                    exact hK _ _ (hJ.val HOK 24 _ (by kernel_rfl) rfl (Below.refl _ _))
                  case o25b_25 =>
                    intro LX V aX wX K hl hp hcl hf hJ hK
                    have t155 := hf.in (i := 17) (d := 155) (by kernel_rfl) (hp 17 (by kernel_rfl)) (hJ.vals 17 _ rfl (hp 17 (by kernel_rfl)))
                    rw [if_neg (by rw [wanted_not (b := true) rfl rfl t155]; exact Bool.false_ne_true)]
                    exact hK _ _ (hJ.val HOK 25 _ (by kernel_rfl) rfl (Below.refl _ _))
                  case o25b_26 =>
                    intro LX V aX wX K hl hp hcl hf hJ hK
                    have t155 := hf.in (i := 17) (d := 155) (by kernel_rfl) (hp 17 (by kernel_rfl)) (hJ.vals 17 _ rfl (hp 17 (by kernel_rfl)))
                    rw [if_neg (by rw [wanted_not (b := true) rfl rfl t155]; exact Bool.false_ne_true)]
                    exact hK _ _ (hJ.val HOK 26 _ (by kernel_rfl) rfl (Below.refl _ _))
                  case o25b_27 =>
                    intro LX V aX wX K hl hp hcl hf hJ hK
                    have t155 := hf.in (i := 17) (d := 155) (by kernel_rfl) (hp 17 (by kernel_rfl)) (hJ.vals 17 _ rfl (hp 17 (by kernel_rfl)))
                    rw [if_neg (by rw [wanted_not (b := true) rfl rfl t155]; exact Bool.false_ne_true)]
                    exact hK _ _ (hJ.val HOK 27 _ (by kernel_rfl) rfl (Below.refl _ _))
                  case o25b_28 =>
                    intro LX V aX wX K hl hp hcl hf hJ hK
                    have t155 := hf.in (i := 17) (d := 155) (by kernel_rfl) (hp 17 (by kernel_rfl)) (hJ.vals 17 _ rfl (hp 17 (by kernel_rfl)))
                    have t165 := hf.in (i := 27) (d := 165) (by kernel_rfl) (hp 27 (by kernel_rfl)) (hJ.vals 27 _ rfl (hp 27 (by kernel_rfl)))
                    have t152 := hf.in (i := 14) (d := 152) (by kernel_rfl) (hp 14 (by kernel_rfl)) (hJ.vals 14 _ rfl (hp 14 (by kernel_rfl)))
                    rw [if_pos (wanted_of rfl rfl t152)]
                    go_simp
                    exact hK _ _ (hJ.val HOK 28 _ (by kernel_rfl) rfl (Below.refl _ _))
                  case o25b_29 =>
                    intro LX V aX wX K hl hp hcl hf hJ hK
                    have t152 := hf.in (i := 14) (d := 152) (by kernel_rfl) (hp 14 (by kernel_rfl)) (hJ.vals 14 _ rfl (hp 14 (by kernel_rfl)))
                    have t166 := hf.in (i := 28) (d := 166) (by kernel_rfl) (hp 28 (by kernel_rfl)) (hJ.vals 28 _ rfl (hp 28 (by kernel_rfl)))
                    rw [if_pos (by rfl)]
                    go_simp
                    exact hK _ _ (hJ.val HOK 29 _ (by kernel_rfl) rfl (Below.refl _ _))
                intro V wZ hJ
                have hv := hJ.vals 29 _ rfl (by kernel_rfl)
                have HBZ := Lib.hid hJ.below
                simp only [puts, Act.put, List.setIfInBounds_toArray, List.set_cons_zero, List.set_cons_succ]
                rw [hv]
                clear hJ HOK hv
                have HSTZ : Hid (IsInts wZ xa m xz X ∧ IsInts wZ (some ⟨yb, yo, none⟩) m yz Y ∧ OwnI wZ B (.slice (some ⟨ga, 0, none⟩) n n) A ∧ wZ.rowIs hk 4 n (fun j => .bool (marked A Y k j)) ∧ Below W0.heap.size W0 wZ) := Lib.hid ⟨HST.out.1.later HBZ.out (Nat.le_refl _), HST.out.2.1.later HBZ.out (Nat.le_refl _), HST.out.2.2.1.later HBZ.out, HST.out.2.2.2.1.of_block (HBZ.out.block _ (rowIs_lt HST.out.2.2.2.1)), HST.out.2.2.2.2.trans (HBZ.out.mono HST.out.2.2.2.2.size)⟩
                obtain ⟨hi5, hi0, hwi, hlt2, hyn, hjn⟩ := HIX2.out
                have cY := HYK.out wZ HBZ.out
                have cA := HSTZ.out.2.2.1.cellAt (HTI.out.alen.trans HN.out) hyn
                rw [HYJ.out.2] at cA
                have fH := HSTZ.out.2.2.2.1.frozen j
                have x0 : (0 : Int) ≤ (y : Int) := by omega
                have x1 : (y : Int) < (n : Int) := by omega
                have x2 : (0 : Int) ≤ (j : Int) := by omega
                have x3 : (j : Int) < (n : Int) := by omega
                have cH := HSTZ.out.2.2.2.1.cell hjn
                obtain ⟨mq, hmq⟩ : ∃ q, q = marked A Y k j := ⟨_, rfl⟩
                rw [← hmq] at cH
                clear hmq
                go_wp2_with fail
                go_roundw
                case rel =>
                  refine ⟨k + 1, by omega, by go_num, Lib.hid ⟨HSTZ.out.1.setOther HBX.out, HSTZ.out.2.1.setOther HBY.out, HSTZ.out.2.2.1.byB HSTZ.out.2.2.2.1, (HSTZ.out.2.2.2.1.set j (.bool true)).congr (fun i hi' => ?_), HSTZ.out.2.2.2.2.setCell (p := ⟨hk, j, none⟩) HKW.out _⟩⟩
                  rw [marked_step (by rw [HYL.out]; exact hlt2) HYJ.out.1 HYJ.out.2 i]
                  by_cases hij : i = j
                  · rw [if_pos hij, if_pos hij]
                  · rw [if_neg hij, if_neg hij]
                case measure => simp [intOf]; omega
            · have hkm2 : m = k := by omega
              subst hkm2
              have HS9 := Lib.hid (And.intro HST.out.1 (And.intro HST.out.2.2.2.1 HST.out.2.2.2.2))
              clear HST HS8
              go_wp2_with fail
              go_loopw [22] (fun iv wr => ∃ k : Nat, k ≤ m ∧ iv = .int .i64 k ∧ Hid (IsInts wr xa m xz X ∧ wr.rowIs hk 4 n (fun j => .bool (marked A Y m j)) ∧ Below W0.heap.size W0 wr)) (fun iv _ => m - (intOf iv).toNat)
              case atStart => exact ⟨0, by omega, rfl, HS9⟩
              case round =>
                obtain ⟨k, hkm, rfl, hst⟩ := hrel
                have HST := hst
                clear hst
                by_cases hlt2 : k < m
                · have hi5 : (k : Int) < (m : Int) := by omega
                  have hi0 : (0 : Int) ≤ (k : Int) := by omega
                  have hwi : IntKind.i64.wrap ((k : Int) + 1) = (k : Int) + 1 := IntWalk.i64_in _ (by omega)
                  obtain ⟨x, hx, hxn⟩ : ∃ x : Nat, X.getD k 0 = (x : Int) ∧ x < n := by
                    have := askB_at (q := atQ p) (M := L) (k := k) (by rw [← HXY.out.1, HXL.out]; exact hlt2)
                    rw [← HXY.out.1, HN.out] at this
                    exact this
                  have hmk : marked A Y m x = true := by
                    have := HTI.out.marks (atQ p) (k := k) (x := x) (by rw [← HXY.out.1, HXL.out]; exact hlt2) (by rw [← HXY.out.1]; exact hx)
                    rw [← HXY.out.2, HYL.out] at this
                    exact this
                  obtain ⟨xb, xo, hxa, cX⟩ := HST.out.1.at hlt2
                  subst hxa
                  rw [hx] at cX
                  have cH := HST.out.2.1.cell hxn
                  rw [hmk] at cH
                  have x0 : ¬ ((x : Int) < 0) := by omega
                  have x1 : ¬ ((n : Int) ≤ (x : Int)) := by omega
                  have x2 : (0 : Int) ≤ (x : Int) := by omega
                  have x3 : (x : Int) < (n : Int) := by omega
                  clear hx hmk
                  go_wp2_with fail
                  go_roundw
                  case rel => exact ⟨k + 1, by omega, by go_num, HST⟩
                  case measure => simp [intOf]; omega
                · have hkm2 : m = k := by omega
                  subst hkm2
                  go_wp2_with fail
                  go_ret
                  exact ⟨rfl, HB0.out.trans (HST.out.2.2.mono HB0.out.size)⟩
end Go.Proofs.Ytlmmejdcjhbppaa
