/- SlabStacks: the walk (printed by mkstacks13.py) -/
import Derived.Test.YtdikecfplohpeaaMSKnown
import Derived.Test.YtdikecfplohpeaaMQRCheck
import Derived.Test.YtdikecfplohpeaaMQIn2
import Derived.Test.YtdikecfplohpeaaMQConcat
set_option linter.unusedSimpArgs false
set_option linter.unusedVariables false
namespace Go.Proofs.Ytdikecfplohpeaa
open Go.RowKit Go.Geo
attribute [local go_sem] Oper.semAt_some
theorem mostE_ge : ∀ (Es : List (List Edg)) (m : Nat), m ≤ Es.foldl (fun m E => max m E.length) m ∧ ∀ E ∈ Es, E.length ≤ Es.foldl (fun m E => max m E.length) m
  | [], m => ⟨Nat.le_refl _, fun _ h => by cases h⟩
  | F :: Es, m => by
    rw [List.foldl_cons]
    obtain ⟨h1, h2⟩ := mostE_ge Es (max m F.length)
    refine ⟨by omega, fun E hE => ?_⟩
    rcases List.mem_cons.1 hE with rfl | hE
    · omega
    · exact h2 E hE
theorem mostE_get {Es : List (List Edg)} {k : Nat} (h : k < Es.length) : (Es.getD k []).length ≤ mostE Es :=
  (mostE_ge Es 0).2 _ (by rw [List.getD_eq_getElem?_getD, List.getElem?_eq_getElem h]; exact List.getElem_mem h)
theorem out_none {R : List (List Pt)} {p lo hi : Pt} (hb : boundsP R.flatten = some (lo, hi)) (h : p.y < lo.y ∨ hi.y ≤ p.y ∨ p.x < lo.x ∨ hi.x ≤ p.x) : inR p R = false := by
  cases e : inR p R with
  | false => rfl
  | true =>
    have h2 := inR_box hb e
    unfold boxIn at h2
    simp only [Bool.and_eq_true, decide_eq_true_eq] at h2
    omega
set_option maxRecDepth 100000 in
set_option maxHeartbeats 8000000 in
theorem SlabStacks_any (ao : Option Addr) (n cap : Nat) (R : List (List Pt)) (p : Pt) (w : World) (h : IsRings w ao n cap R) (hk : Kept R) :
    Calls Try.prog 6 #[.agg #[.slice ao n cap], ptV p] w fun e w' => e = .returned (.bool true) ∧ Below w.heap.size w w' := by
  have HL := Lib.hid h.1
  obtain ⟨W0, hW0⟩ : ∃ W, W = (w.alloc (.cells #[.slice ao n cap] 24)).alloc (.cells #[.int .i64 p.x, .int .i64 p.y] 40) := ⟨_, rfl⟩
  have a0 : W0.heap[w.heap.size]? = some (.cells #[.slice ao n cap] 24 (0, 0)) := by rw [hW0]; exact (Below.heap_alloc _ _ _ (by simp)).trans (alloc_new _ _)
  have a1 : W0.heap[w.heap.size + 1]? = some (.cells #[.int .i64 p.x, .int .i64 p.y] 40 (0, 0)) := by rw [hW0]; exact alloc_new2 _ _ _
  have hg0 : Below w.heap.size w W0 := by rw [hW0]; exact ((Below.refl _ _).alloc (Nat.le_refl _) _).alloc (by simp) _
  have HI := Lib.hid (h.later hg0 (Nat.le_refl _))
  have H0 := Lib.hid hg0
  have HC : Hid (∀ wr, Below W0.heap.size W0 wr → wr.cell? ⟨w.heap.size, 0, none⟩ = some (.slice ao n cap)) := Lib.hid (fun wr hb => cell_of_row _ _ _ _ _ _ ((hb.block _ (heap_lt' a0)).trans a0))
  have HP : Hid (∀ wr, Below W0.heap.size W0 wr → wr.heap[w.heap.size + 1]? = some (.cells #[.int .i64 p.x, .int .i64 p.y] 40 (0, 0))) := Lib.hid (fun wr hb => (hb.block _ (heap_lt' a1)).trans a1)
  have HBG : Hid (∀ w1, Below W0.heap.size W0 w1 → Calls Try.prog 8 #[.agg #[.slice ao n cap], .int .i64 120] w1 (BigPost R 120 w1)) := Lib.hid (fun w1 hb => BigRegion_any ao n cap R 120 w1 (HI.out.later hb (Nat.le_refl _)) hk (by omega))
  clear h hk hg0 a0 a1
  unfold ptV
  go_enter Try.func6, Try.ntmps6
  go_wp2_with fail
  rw [← hW0]
  clear hW0
  refine (SlabKnown_any W0).mono ?_
  rintro e w1 ⟨rfl, hb1⟩
  have HB1 := Lib.hid hb1
  have c0 := HC.out w1 hb1
  clear hb1
  go_wp2_with fail
  refine (HBG.out w1 HB1.out).mono ?_
  rintro e w2 ⟨q, rfl, hq, hb2⟩
  have HB2 := Lib.hid (HB1.out.trans (hb2.mono HB1.out.size))
  have c0 := HC.out w2 HB2.out
  have HQ := Lib.hid hq
  clear hb2 hq
  cases q with
  | true =>
    go_wp2_with fail
    go_ret
    exact ⟨rfl, H0.out.trans (HB2.out.mono H0.out.size)⟩
  | false =>
    obtain ⟨hq1, hq2⟩ := HQ.out rfl
    have HS := Lib.hid hq2
    have hn22 : n ≤ 22 := by rw [← HL.out]; exact hq1
    have HBU := Lib.hid (Build_any ao n cap R w2 (HI.out.later HB2.out (Nat.le_refl _)) (by omega))
    have HRG : Hid (∀ wX, Below W0.heap.size W0 wX → Calls Try.prog 20 #[.agg #[.slice ao n cap]] wX fun e w' => e = .returned (faultV (regionCheckP R)) ∧ Below wX.heap.size wX w') := Lib.hid (fun wX hX => Check_region ao n cap R wX (HI.out.later hX (Nat.le_refl _)) (by have := HS.out; omega))
    clear hq1 hq2 HQ
    go_wp2_with fail
    refine HBU.out.mono ?_
    rintro e w3 ⟨hb3, hok, hno⟩
    have HB3' := Lib.hid (HB2.out.trans (hb3.mono HB2.out.size))
    obtain ⟨fx, hfx⟩ : ∃ f, f = regionCheckP R := ⟨_, rfl⟩
    by_cases hz : (regionCheckP R).1 = 0
    · obtain ⟨g, rfl, hgs, how⟩ := hok hz
      have HSI := Lib.hid (slabs_is hz how)
      have h2H := heights_two hz
      have hHL := heights_len R
      have HZ := Lib.hid hz
      rw [← hfx] at hz HRG
      obtain ⟨f, fa⟩ := fx
      dsimp only at hz
      subst hz
      unfold faultV at HRG
      dsimp only at HRG
      clear hok hno hgs how hb3 c0
      obtain ⟨W3, hW3⟩ : ∃ W, W = w3.alloc (.cells #[.int .i64 0, .int .i64 0] 30) := ⟨_, rfl⟩
      have hb4 : Below w3.heap.size w3 W3 := by rw [hW3]; exact (Below.refl _ _).alloc (Nat.le_refl _) _
      obtain ⟨gf, hgf⟩ : ∃ g, g = w3.heap.size := ⟨_, rfl⟩
      have hf3 : W3.cell? ⟨gf, 0, none⟩ = some (.int .i64 0) := by rw [hW3, hgf]; exact cell_of_row _ _ _ _ _ _ (alloc_new _ _)
      have HF3 : Hid (∀ wX, Below W3.heap.size W3 wX → wX.cell? ⟨gf, 0, none⟩ = some (.int .i64 0)) := Lib.hid (fun wX hX => (hX.cell (p := ⟨gf, 0, none⟩) (block_lt_of_cell hf3)).trans hf3)
      have HB3 := Lib.hid (HB3'.out.trans (hb4.mono HB3'.out.size))
      have HC3 : Hid (∀ wX, Below W3.heap.size W3 wX → wX.cell? ⟨w.heap.size, 0, none⟩ = some (.slice ao n cap)) := Lib.hid (fun wX hX => HC.out wX (HB3.out.trans (hX.mono HB3.out.size)))
      have HRC : Hid (∀ wX, Below W3.heap.size W3 wX → Calls Try.prog 20 #[.agg #[.slice ao n cap]] wX fun e w' => e = .returned (.agg #[.int .i64 0, .int .i64 fa]) ∧ Below wX.heap.size wX w') := Lib.hid (fun wX hX => HRG.out wX (HB3.out.trans (hX.mono HB3.out.size)))
      have HS3 := Lib.hid (HSI.out.later hb4)
      clear hb4 hf3
      go_wp2_with fail
      rw [← hW3, ← hgf]
      clear hW3 hgf
      have HOK : ∀ f ∈ ([] : List Fct), FctOk f := by
        intro f hf; cases hf
      refine wp_region_J (s := [(27, 0), (28, 1), (29, 2), (30, 3), (31, 4), (32, 5), (33, 6), (34, 7)]) (by kernel_rfl) (GrowJ W3 (fun iX => match iX with | 0 => some (.pointer (some ⟨gf, 0, none⟩)) | 1 => some (.int .i64 (0)) | 2 => some (.bool true) | 3 => some (.agg #[.slice ao n cap]) | 4 => some (.agg #[.int .i64 (0), .int .i64 (fa)]) | 5 => some (.int .i64 (0)) | 6 => some (.bool true) | 7 => some (.bool false) | _ => none) []) (by kernel_rfl) (by kernel_rfl) (by kernel_rfl) (by kernel_rfl) (fun _ => undef) ?start5a ?step5a ?done5a
      case start5a => exact GrowJ.start ((Below.refl _ _).drew)
      case step5a =>
        refine ⟨?o5a_0, ?o5a_1, ?o5a_2, ?o5a_3, ?o5a_4, ?o5a_5, ?o5a_6, ?o5a_7, trivial⟩
        case o5a_0 =>
          intro LX V aX wX K hl hp hcl hf hJ hK
          have t7 : aX.tmps[7]? = some (.pointer (some ⟨gf, 0, none⟩)) := hf.old (by kernel_rfl) rfl
          rw [if_pos (by rfl)]
          go_simp
          exact hK _ _ (hJ.val HOK 0 _ (by kernel_rfl) rfl (Below.refl _ _))
        case o5a_1 =>
          intro LX V aX wX K hl hp hcl hf hJ hK
          have t27 := hf.in (i := 0) (d := 27) (by kernel_rfl) (hp 0 (by kernel_rfl)) (hJ.vals 0 _ rfl (hp 0 (by kernel_rfl)))
          have c5 := HF3.out wX hJ.below
          rw [if_pos (by rfl)]
          go_simp
          exact hK _ _ (hJ.val HOK 1 _ (by kernel_rfl) rfl (Below.refl _ _))
        case o5a_2 =>
          intro LX V aX wX K hl hp hcl hf hJ hK
          have t28 := hf.in (i := 1) (d := 28) (by kernel_rfl) (hp 1 (by kernel_rfl)) (hJ.vals 1 _ rfl (hp 1 (by kernel_rfl)))
          rw [if_pos (by rfl)]
          go_simp
          exact hK _ _ (hJ.val HOK 2 _ (by kernel_rfl) rfl (Below.refl _ _))
        case o5a_3 =>
          intro LX V aX wX K hl hp hcl hf hJ hK
          have t2 : aX.tmps[2]? = some (.pointer (some ⟨w.heap.size, 0, none⟩)) := hf.old (by kernel_rfl) rfl
          have c5 := HC3.out wX hJ.below
          rw [if_pos (by rfl)]
          go_simp
          exact hK _ _ (hJ.val HOK 3 _ (by kernel_rfl) rfl (Below.refl _ _))
        case o5a_4 =>
          intro LX V aX wX K hl hp hcl hf hJ hK
          have t30 := hf.in (i := 3) (d := 30) (by kernel_rfl) (hp 3 (by kernel_rfl)) (hJ.vals 3 _ rfl (hp 3 (by kernel_rfl)))
          rw [if_pos (by rfl)]
          go_simp
          refine (HRC.out _ hJ.below).mono ?_
          rintro e wA ⟨rfl, hbA⟩
          exact hK _ _ (hJ.val HOK 4 _ (by kernel_rfl) rfl (hbA))
        case o5a_5 =>
          intro LX V aX wX K hl hp hcl hf hJ hK
          have t31 := hf.in (i := 4) (d := 31) (by kernel_rfl) (hp 4 (by kernel_rfl)) (hJ.vals 4 _ rfl (hp 4 (by kernel_rfl)))
          rw [if_pos (by rfl)]
          go_simp
          exact hK _ _ (hJ.val HOK 5 _ (by kernel_rfl) rfl (Below.refl _ _))
        case o5a_6 =>
          intro LX V aX wX K hl hp hcl hf hJ hK
          have t32 := hf.in (i := 5) (d := 32) (by kernel_rfl) (hp 5 (by kernel_rfl)) (hJ.vals 5 _ rfl (hp 5 (by kernel_rfl)))
          rw [if_pos (by rfl)]
          go_simp
          exact hK _ _ (hJ.val HOK 6 _ (by kernel_rfl) rfl (Below.refl _ _))
        case o5a_7 =>
          intro LX V aX wX K hl hp hcl hf hJ hK
          have t29 := hf.in (i := 2) (d := 29) (by kernel_rfl) (hp 2 (by kernel_rfl)) (hJ.vals 2 _ rfl (hp 2 (by kernel_rfl)))
          have t33 := hf.in (i := 6) (d := 33) (by kernel_rfl) (hp 6 (by kernel_rfl)) (hJ.vals 6 _ rfl (hp 6 (by kernel_rfl)))
          rw [if_pos (by rfl)]
          go_simp
          exact hK _ _ (hJ.val HOK 7 _ (by kernel_rfl) rfl (Below.refl _ _))
      intro V w4 hJ
      have hv := hJ.vals 7 _ rfl (by kernel_rfl)
      have HB4 := Lib.hid (HB3.out.trans (hJ.below.mono HB3.out.size))
      have HJ4 := Lib.hid hJ.below
      simp only [puts, Act.put, List.setIfInBounds_toArray, List.set_cons_zero, List.set_cons_succ]
      rw [hv]
      clear hJ HOK hv
      have c5 := HF3.out w4 HJ4.out
      have c0 := HC.out w4 HB4.out
      have HS4 := Lib.hid (HS3.out.later HJ4.out)
      obtain ⟨lo, hi, hbb⟩ := region_box HZ.out
      have hbx := Box_region ao n cap R w4 (HI.out.later HB4.out (Nat.le_refl _)) (by have := HS.out; omega)
      have hbv : boundsV R.flatten = .tuple #[boxV lo hi, .bool true] := by unfold boundsV; rw [hbb]
      rw [hbv] at hbx
      unfold boxV at hbx
      have HBX := Lib.hid hbx
      obtain ⟨m, hm⟩ : ∃ m, (heightsP R).length = m + 1 := ⟨(heightsP R).length - 1, by omega⟩
      have hEs : (slabsR R).length = m := by rw [slabsR_len, hm]; rfl
      have hm1 : 1 ≤ m := by omega
      have hm4 : m ≤ 120 := by have := HS.out; omega
      have HM := Lib.hid hm
      have HES := Lib.hid hEs
      have HY0 : Hid (lo.y = (heightsP R).getD 0 0) := Lib.hid (heights_bounds HZ.out hbb).1.symm
      have HYM : Hid ((heightsP R).getD m 0 = hi.y - 1) := Lib.hid (by have h := (heights_bounds HZ.out hbb).2; rw [hm] at h; exact h)
      have HOUT : Hid ((p.y < lo.y ∨ hi.y ≤ p.y ∨ p.x < lo.x ∨ hi.x ≤ p.x) → inR p R = false) := Lib.hid (fun h => out_none hbb h)
      have hyr : -1099511627775 ≤ hi.y - 1 ∧ hi.y - 1 ≤ 1099511627775 := by
        obtain ⟨_, v, hv, ev⟩ := bounds_at hbb
        rw [← ev]
        exact ((validP_iff v).1 ((bounds_in hbb).1 v hv)).2
      obtain ⟨hyr1, hyr2⟩ := hyr
      clear hbb hbx hbv hm hEs h2H hHL
      go_wp2_with fail
      refine HBX.out.mono ?_
      rintro e w5 ⟨rfl, hb5⟩
      obtain ⟨W6, hW6⟩ : ∃ W, W = w5.alloc (.cells #[.int .i64 lo.x, .int .i64 lo.y, .int .i64 hi.x, .int .i64 hi.y] 52) := ⟨_, rfl⟩
      have hb56 : Below w5.heap.size w5 W6 := by rw [hW6]; exact (Below.refl _ _).alloc (Nat.le_refl _) _
      obtain ⟨gx, hgx⟩ : ∃ g, g = w5.heap.size := ⟨_, rfl⟩
      have hx6 : W6.heap[gx]? = some (.cells #[.int .i64 lo.x, .int .i64 lo.y, .int .i64 hi.x, .int .i64 hi.y] 52 (0, 0)) := by rw [hW6, hgx]; exact alloc_new _ _
      have HX6 : Hid (∀ wX, Below W6.heap.size W6 wX → wX.heap[gx]? = some (.cells #[.int .i64 lo.x, .int .i64 lo.y, .int .i64 hi.x, .int .i64 hi.y] 52 (0, 0))) := Lib.hid (fun wX hX => (hX.block _ (heap_lt' hx6)).trans hx6)
      have HB5 := Lib.hid (HB4.out.trans (hb5.mono HB4.out.size))
      have HB6 := Lib.hid (HB5.out.trans (hb56.mono HB5.out.size))
      have HS6 := Lib.hid ((HS4.out.later hb5).later hb56)
      have hLE : ∀ wX, Below W6.heap.size W6 wX → Calls Try.prog 12 #[.pointer (some ⟨g, 0, none⟩)] wX fun e w' => e = .returned (.int .i64 (m : Int)) ∧ w' = wX := fun wX hX => by
        have h := Len_any g _ _ wX (HS6.out.later hX)
        rw [HES.out] at h
        exact h
      have HLE := Lib.hid hLE
      clear hb5 hb56 hx6 hLE c5 c0
      go_wp2_with fail
      rw [← hW6, ← hgx]
      clear hW6 hgx
      refine (HLE.out W6 (Below.refl _ _)).mono ?_
      rintro e W6 ⟨rfl, rfl⟩
      have hm1z : ¬ (m : Int) < 1 := by omega
      have x1 : W6.cell? ⟨gx, 1, none⟩ = some (.int .i64 lo.y) := cell_of_row _ _ _ _ _ _ (HX6.out _ (Below.refl _ _))
      go_wp2_with fail
      clear x1
      go_loopw [10, 11] (fun y i wr => ∃ k : Nat, k ≤ m ∧ i = .int .i64 k ∧ (∃ t : Int, y = .int .i64 t ∧ Hid (t = (heightsP R).getD k 0)) ∧ Hid (Below W6.heap.size W6 wr)) (fun _ i _ => m - (intOf i).toNat)
      case atStart => exact ⟨0, by omega, rfl, ⟨lo.y, rfl, HY0⟩, Below.refl _ _⟩
      case round =>
        obtain ⟨k, hk, rfl, ⟨t, rfl, ht⟩, hbl⟩ := hrel
        by_cases hlt : k < m
        · have hk0 : (0 : Int) ≤ (k : Int) := by omega
          have hk5 : (k : Int) < (m : Int) := by omega
          have hwk : IntKind.i64.wrap ((k : Int) + 1) = (k : Int) + 1 := IntWalk.i64_in _ (by omega)
          have hwm : IntKind.i64.wrap ((m : Int) - 1) = (m : Int) - 1 := IntWalk.i64_in _ (by omega)
          have hSB := Slab_any g k _ _ wr (HS6.out.later hbl.out) (by rw [HES.out]; exact hlt)
          rw [← ht.out] at hSB
          obtain ⟨hh, hhh⟩ : ∃ x, x = (heightsP R).getD (k + 1) 0 := ⟨_, rfl⟩
          obtain ⟨ei, hei⟩ : ∃ x, x = ((slabsR R).getD k []).length := ⟨_, rfl⟩
          rw [← hhh, ← hei] at hSB
          have HSB := Lib.hid hSB
          have hup : t < hh := by rw [ht.out, hhh]; exact sorted_lt (heights_sorted R) (by omega) (by rw [HM.out]; omega)
          have hup2 : ¬ hh ≤ t := by omega
          have hev : ei % 2 = 0 := by rw [hei, slabsR_get (by rw [HM.out]; omega)]; exact slab_even R k
          have hrm1 : Int.tmod (ei : Int) 2 = 0 := by rw [Int.tmod_eq_emod_of_nonneg (by omega)]; omega
          have hrm2 : (ei : Int) % 2 = 0 := by omega
          have he0 : ¬ (ei : Int) < 0 := by omega
          have hmo : ei ≤ mostE (slabsR R) := by rw [hei]; exact mostE_get (by rw [HES.out]; exact hlt)
          have h2a : k = 0 → 2 ≤ ei := fun h => by
            rw [hei, slabsR_get (by rw [HM.out]; omega), h]
            exact slab_first HZ.out
          have h2b : k = m - 1 → 2 ≤ ei := fun h => by
            have h3 := slab_last HZ.out
            rw [HM.out, show m + 1 - 2 = k by omega] at h3
            rw [hei, slabsR_get (by rw [HM.out]; omega)]
            exact h3
          have HNX : Hid (hh = (heightsP R).getD (k + 1) 0) := Lib.hid hhh
          have hM := fun wX hX => Most_any g _ _ wX (HS6.out.later (w' := wX) hX)
          obtain ⟨mo, hmo'⟩ : ∃ x, x = mostE (slabsR R) := ⟨_, rfl⟩
          rw [← hmo'] at hM hmo
          have HMO : Hid (∀ wX, Below W6.heap.size W6 wX → Calls Try.prog 15 #[.pointer (some ⟨g, 0, none⟩)] wX fun e w' => e = .returned (.int .i64 (mo : Int)) ∧ Below wX.heap.size wX w') := Lib.hid hM
          have hmoz : ¬ (mo : Int) < (ei : Int) := by omega
          clear hSB hhh hei hev hM hmo' hmo
          go_wp2_with fail
          refine (HLE.out wr hbl.out).mono ?_
          rintro e w8 ⟨rfl, rfl⟩
          go_wp2_with fail
          refine HSB.out.mono ?_
          rintro e w9 ⟨rfl, hb9⟩
          have HB9 := Lib.hid (hbl.out.trans (hb9.mono hbl.out.size))
          have htt : (t != t) = false := by simp
          clear hb9
          by_cases hz0 : k = 0
          · have h2 := h2a hz0
            have hz1 : ((k : Int) == 0) = true := by simp [hz0]
            have h2z : ¬ (ei : Int) < 2 := by omega
            clear h2a h2b hz0
            go_wp2_with fail
            refine (HMO.out w9 HB9.out).mono ?_
            rintro e w10 ⟨rfl, hb10⟩
            have HB10 := Lib.hid (HB9.out.trans (hb10.mono HB9.out.size))
            clear hb10
            go_wp2_with fail
            go_roundw
            case rel => exact ⟨k + 1, by omega, by go_num, ⟨hh, by go_num, HNX⟩, HB10⟩
            case measure => simp [intOf]; omega
          · have hz1 : ((k : Int) == 0) = false := by simp [hz0]
            have h2m := h2b
            clear h2a h2b hz0
            by_cases hl : k = m - 1
            · have h2 := h2m hl
              have hz2 : ((k : Int) == (m : Int) - 1) = true := by simp; omega
              have h2z : ¬ (ei : Int) < 2 := by omega
              clear h2m hl
              go_wp2_with fail
              refine (HLE.out w9 HB9.out).mono ?_
              rintro e w8 ⟨rfl, rfl⟩
              go_wp2_with fail
              refine (HMO.out w8 HB9.out).mono ?_
              rintro e w10 ⟨rfl, hb10⟩
              have HB10 := Lib.hid (HB9.out.trans (hb10.mono HB9.out.size))
              clear hb10
              go_wp2_with fail
              go_roundw
              case rel => exact ⟨k + 1, by omega, by go_num, ⟨hh, by go_num, HNX⟩, HB10⟩
              case measure => simp [intOf]; omega
            · have hz2 : ((k : Int) == (m : Int) - 1) = false := by simp; omega
              clear h2m hl
              go_wp2_with fail
              refine (HLE.out w9 HB9.out).mono ?_
              rintro e w8 ⟨rfl, rfl⟩
              go_wp2_with fail
              refine (HMO.out w8 HB9.out).mono ?_
              rintro e w10 ⟨rfl, hb10⟩
              have HB10 := Lib.hid (HB9.out.trans (hb10.mono HB9.out.size))
              clear hb10
              go_wp2_with fail
              go_roundw
              case rel => exact ⟨k + 1, by omega, by go_num, ⟨hh, by go_num, HNX⟩, HB10⟩
              case measure => simp [intOf]; omega
        · have hkm : m = k := by omega
          subst hkm
          have hk5 : ¬ (m : Int) < (m : Int) := by omega
          have hty : t = hi.y - 1 := ht.out.trans HYM.out
          subst hty
          have hwy : IntKind.i64.wrap (hi.y - 1) = hi.y - 1 := IntWalk.i64_in _ (by omega)
          have hyy : (hi.y - 1 == hi.y - 1) = true := by simp
          clear ht
          go_wp2_with fail
          refine (HLE.out wr hbl.out).mono ?_
          rintro e w8 ⟨rfl, rfl⟩
          have HB8 := Lib.hid (HB6.out.trans (hbl.out.mono HB6.out.size))
          have hx8 := HX6.out w8 hbl.out
          have hp8 := HP.out w8 HB8.out
          have x0 : w8.cell? ⟨gx, 0, none⟩ = some (.int .i64 lo.x) := cell_of_row _ _ _ _ _ _ hx8
          have x1 : w8.cell? ⟨gx, 1, none⟩ = some (.int .i64 lo.y) := cell_of_row _ _ _ _ _ _ hx8
          have x2 : w8.cell? ⟨gx, 2, none⟩ = some (.int .i64 hi.x) := cell_of_row _ _ _ _ _ _ hx8
          have x3 : w8.cell? ⟨gx, 3, none⟩ = some (.int .i64 hi.y) := cell_of_row _ _ _ _ _ _ hx8
          have hIN := SIn_any g _ _ p w8 (HS6.out.later hbl.out) (heights_sorted R)
          rw [inR_slab] at hIN
          unfold ptV at hIN
          obtain ⟨a, ha⟩ : ∃ a, a = inR p R := ⟨_, rfl⟩
          rw [← ha] at hIN
          have HIN := Lib.hid hIN
          obtain ⟨p1, p2, _, _⟩ := pt_cells hp8
          have HFA : Hid ((p.y < lo.y ∨ hi.y ≤ p.y ∨ p.x < lo.x ∨ hi.x ≤ p.x) → a = false) := Lib.hid (fun h => ha.trans (HOUT.out h))
          clear hx8 hp8 hIN ha
          by_cases h : p.y < lo.y
          · have hfa := HFA.out (.inl h)
            subst hfa
            clear HFA
            go_wp2_with fail
            refine HIN.out.mono ?_
            rintro e w9 ⟨rfl, hb9⟩
            have HB9 := Lib.hid (H0.out.trans ((HB8.out.trans (hb9.mono HB8.out.size)).mono H0.out.size))
            clear hb9 x0 x1 x2 x3 p1 p2
            go_wp2_with fail
            go_ret
            exact ⟨rfl, HB9.out⟩
          · have h0 : ¬ p.y < lo.y := h
            clear h
            by_cases h : hi.y ≤ p.y
            · have hfa := HFA.out (.inr (.inl h))
              subst hfa
              clear HFA
              go_wp2_with fail
              refine HIN.out.mono ?_
              rintro e w9 ⟨rfl, hb9⟩
              have HB9 := Lib.hid (H0.out.trans ((HB8.out.trans (hb9.mono HB8.out.size)).mono H0.out.size))
              clear hb9 x0 x1 x2 x3 p1 p2
              go_wp2_with fail
              go_ret
              exact ⟨rfl, HB9.out⟩
            · have h1 : ¬ hi.y ≤ p.y := h
              clear h
              by_cases h : p.x < lo.x
              · have hfa := HFA.out (.inr (.inr (.inl h)))
                subst hfa
                clear HFA
                go_wp2_with fail
                refine HIN.out.mono ?_
                rintro e w9 ⟨rfl, hb9⟩
                have HB9 := Lib.hid (H0.out.trans ((HB8.out.trans (hb9.mono HB8.out.size)).mono H0.out.size))
                clear hb9 x0 x1 x2 x3 p1 p2
                go_wp2_with fail
                go_ret
                exact ⟨rfl, HB9.out⟩
              · have h2 : ¬ p.x < lo.x := h
                clear h
                by_cases h : hi.x ≤ p.x
                · have hfa := HFA.out (.inr (.inr (.inr h)))
                  subst hfa
                  clear HFA
                  go_wp2_with fail
                  refine HIN.out.mono ?_
                  rintro e w9 ⟨rfl, hb9⟩
                  have HB9 := Lib.hid (H0.out.trans ((HB8.out.trans (hb9.mono HB8.out.size)).mono H0.out.size))
                  clear hb9 x0 x1 x2 x3 p1 p2
                  go_wp2_with fail
                  go_ret
                  exact ⟨rfl, HB9.out⟩
                · have h3 : ¬ hi.x ≤ p.x := h
                  clear h
                  go_wp2_with fail
                  go_ret
                  exact ⟨rfl, H0.out.trans (HB8.out.mono H0.out.size)⟩
    · have he := hno hz
      subst he
      rw [← hfx] at hz HRG ⊢
      obtain ⟨f, fa⟩ := fx
      unfold faultV at HRG ⊢
      dsimp only at HRG hz ⊢
      have hzz : (f == 0) = false := by simpa using hz
      have hzz2 : (f != 0) = true := by simpa using hz
      clear hok hno hb3 c0 hfx hz
      obtain ⟨W3, hW3⟩ : ∃ W, W = w3.alloc (.cells #[.int .i64 f, .int .i64 fa] 30) := ⟨_, rfl⟩
      have hb4 : Below w3.heap.size w3 W3 := by rw [hW3]; exact (Below.refl _ _).alloc (Nat.le_refl _) _
      obtain ⟨gf, hgf⟩ : ∃ g, g = w3.heap.size := ⟨_, rfl⟩
      have hf3 : W3.cell? ⟨gf, 0, none⟩ = some (.int .i64 f) := by rw [hW3, hgf]; exact cell_of_row _ _ _ _ _ _ (alloc_new _ _)
      have HF3 : Hid (∀ wX, Below W3.heap.size W3 wX → wX.cell? ⟨gf, 0, none⟩ = some (.int .i64 f)) := Lib.hid (fun wX hX => (hX.cell (p := ⟨gf, 0, none⟩) (block_lt_of_cell hf3)).trans hf3)
      have HB3 := Lib.hid (HB3'.out.trans (hb4.mono HB3'.out.size))
      have HC3 : Hid (∀ wX, Below W3.heap.size W3 wX → wX.cell? ⟨w.heap.size, 0, none⟩ = some (.slice ao n cap)) := Lib.hid (fun wX hX => HC.out wX (HB3.out.trans (hX.mono HB3.out.size)))
      have HRC : Hid (∀ wX, Below W3.heap.size W3 wX → Calls Try.prog 20 #[.agg #[.slice ao n cap]] wX fun e w' => e = .returned (.agg #[.int .i64 f, .int .i64 fa]) ∧ Below wX.heap.size wX w') := Lib.hid (fun wX hX => HRG.out wX (HB3.out.trans (hX.mono HB3.out.size)))
      clear hb4 hf3
      go_wp2_with fail
      rw [← hW3, ← hgf]
      clear hW3 hgf
      have HOK : ∀ f ∈ ([] : List Fct), FctOk f := by
        intro f hf; cases hf
      refine wp_region_J (s := [(27, 0), (28, 1), (29, 2), (30, 3), (31, 4), (32, 5), (33, 6), (34, 7)]) (by kernel_rfl) (GrowJ W3 (fun iX => match iX with | 0 => some (.pointer (some ⟨gf, 0, none⟩)) | 1 => some (.int .i64 (f)) | 2 => some (.bool false) | 3 => some (.agg #[.slice ao n cap]) | 4 => some (.agg #[.int .i64 (f), .int .i64 (fa)]) | 5 => some (.int .i64 (f)) | 6 => some (.bool false) | 7 => some (.bool false) | _ => none) []) (by kernel_rfl) (by kernel_rfl) (by kernel_rfl) (by kernel_rfl) (fun _ => undef) ?start5b ?step5b ?done5b
      case start5b => exact GrowJ.start ((Below.refl _ _).drew)
      case step5b =>
        refine ⟨?o5b_0, ?o5b_1, ?o5b_2, ?o5b_3, ?o5b_4, ?o5b_5, ?o5b_6, ?o5b_7, trivial⟩
        case o5b_0 =>
          intro LX V aX wX K hl hp hcl hf hJ hK
          have t7 : aX.tmps[7]? = some (.pointer (some ⟨gf, 0, none⟩)) := hf.old (by kernel_rfl) rfl
          rw [if_pos (by rfl)]
          go_simp
          exact hK _ _ (hJ.val HOK 0 _ (by kernel_rfl) rfl (Below.refl _ _))
        case o5b_1 =>
          intro LX V aX wX K hl hp hcl hf hJ hK
          have t27 := hf.in (i := 0) (d := 27) (by kernel_rfl) (hp 0 (by kernel_rfl)) (hJ.vals 0 _ rfl (hp 0 (by kernel_rfl)))
          have c5 := HF3.out wX hJ.below
          rw [if_pos (by rfl)]
          go_simp
          exact hK _ _ (hJ.val HOK 1 _ (by kernel_rfl) rfl (Below.refl _ _))
        case o5b_2 =>
          intro LX V aX wX K hl hp hcl hf hJ hK
          have t28 := hf.in (i := 1) (d := 28) (by kernel_rfl) (hp 1 (by kernel_rfl)) (hJ.vals 1 _ rfl (hp 1 (by kernel_rfl)))
          rw [if_pos (by rfl)]
          go_simp
          exact hK _ _ (hJ.val HOK 2 _ (by kernel_rfl) rfl (Below.refl _ _))
        case o5b_3 =>
          intro LX V aX wX K hl hp hcl hf hJ hK
          have t2 : aX.tmps[2]? = some (.pointer (some ⟨w.heap.size, 0, none⟩)) := hf.old (by kernel_rfl) rfl
          have c5 := HC3.out wX hJ.below
          rw [if_pos (by rfl)]
          go_simp
          exact hK _ _ (hJ.val HOK 3 _ (by kernel_rfl) rfl (Below.refl _ _))
        case o5b_4 =>
          intro LX V aX wX K hl hp hcl hf hJ hK
          have t30 := hf.in (i := 3) (d := 30) (by kernel_rfl) (hp 3 (by kernel_rfl)) (hJ.vals 3 _ rfl (hp 3 (by kernel_rfl)))
          rw [if_pos (by rfl)]
          go_simp
          refine (HRC.out _ hJ.below).mono ?_
          rintro e wA ⟨rfl, hbA⟩
          exact hK _ _ (hJ.val HOK 4 _ (by kernel_rfl) rfl (hbA))
        case o5b_5 =>
          intro LX V aX wX K hl hp hcl hf hJ hK
          have t31 := hf.in (i := 4) (d := 31) (by kernel_rfl) (hp 4 (by kernel_rfl)) (hJ.vals 4 _ rfl (hp 4 (by kernel_rfl)))
          rw [if_pos (by rfl)]
          go_simp
          exact hK _ _ (hJ.val HOK 5 _ (by kernel_rfl) rfl (Below.refl _ _))
        case o5b_6 =>
          intro LX V aX wX K hl hp hcl hf hJ hK
          have t32 := hf.in (i := 5) (d := 32) (by kernel_rfl) (hp 5 (by kernel_rfl)) (hJ.vals 5 _ rfl (hp 5 (by kernel_rfl)))
          rw [if_pos (by rfl)]
          go_simp
          exact hK _ _ (hJ.val HOK 6 _ (by kernel_rfl) rfl (Below.refl _ _))
        case o5b_7 =>
          intro LX V aX wX K hl hp hcl hf hJ hK
          have t29 := hf.in (i := 2) (d := 29) (by kernel_rfl) (hp 2 (by kernel_rfl)) (hJ.vals 2 _ rfl (hp 2 (by kernel_rfl)))
          have t33 := hf.in (i := 6) (d := 33) (by kernel_rfl) (hp 6 (by kernel_rfl)) (hJ.vals 6 _ rfl (hp 6 (by kernel_rfl)))
          rw [if_pos (by rfl)]
          go_simp
          exact hK _ _ (hJ.val HOK 7 _ (by kernel_rfl) rfl (Below.refl _ _))
      intro V w4 hJ
      have hv := hJ.vals 7 _ rfl (by kernel_rfl)
      have HB4 := Lib.hid (HB3.out.trans (hJ.below.mono HB3.out.size))
      have HJ4 := Lib.hid hJ.below
      simp only [puts, Act.put, List.setIfInBounds_toArray, List.set_cons_zero, List.set_cons_succ]
      rw [hv]
      clear hJ HOK hv
      have c5 := HF3.out w4 HJ4.out
      go_wp2_with fail
      go_ret
      exact ⟨rfl, H0.out.trans (HB4.out.mono H0.out.size)⟩
theorem SlabStacks_z {w : World} (g : Rg) (hg : ∃ R, IsRings w g.a g.n g.c R ∧ Kept R) (p : Pt) :
    Calls Try.prog 6 #[g.val, ptV p] w fun e w' => e = .returned (.bool true) ∧ Below w.heap.size w w' := by
  obtain ⟨R, hr, hk⟩ := hg
  exact SlabStacks_any _ _ _ R p w hr hk
end Go.Proofs.Ytdikecfplohpeaa
