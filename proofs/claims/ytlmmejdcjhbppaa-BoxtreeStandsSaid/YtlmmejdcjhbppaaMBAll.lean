/- BoxtreeAll (printed by mkall12.py) -/
import Derived.Test.YtlmmejdcjhbppaaMBLaw0
import Derived.Test.YtlmmejdcjhbppaaMBIn
import Derived.Test.YtlmmejdcjhbppaaMRegC
set_option linter.unusedSimpArgs false
set_option linter.unusedVariables false
namespace Go.Proofs.Ytlmmejdcjhbppaa
open Go.RowKit Go.Geo
attribute [local go_sem] Oper.semAt_some
/-- of the first i. -/
def askP (q : Bx → Bool) (L : List Bx) (i : Nat) : List Int := (allI i).filter (fun x => q (bxI L x))
theorem askP_all (q : Bx → Bool) (L : List Bx) : askP q L L.length = askB q L := (askB_filter q L).symm
theorem bxI_nat (L : List Bx) (i : Nat) : bxI L (i : Int) = L.getD i bx0 := by unfold bxI; rw [Int.toNat_natCast]
theorem askP_no {q : Bx → Bool} {L : List Bx} {i : Nat} (h : q (L.getD i bx0) = false) : askP q L (i + 1) = askP q L i := by
  unfold askP; rw [allI_succ, List.filter_append, List.filter_cons, bxI_nat, h]; simp
theorem askP_yes {q : Bx → Bool} {L : List Bx} {i : Nat} (h : q (L.getD i bx0) = true) : askP q L (i + 1) = askP q L i ++ [(i : Int)] := by
  unfold askP; rw [allI_succ, List.filter_append, List.filter_cons, bxI_nat, h]; simp
theorem askP_more (q : Bx → Bool) (L : List Bx) (i : Nat) : ∀ d, ∃ r, askP q L (i + d) = askP q L i ++ r
  | 0 => ⟨[], by simp⟩
  | d + 1 => by
    obtain ⟨r, hr⟩ := askP_more q L i d
    cases h : q (L.getD (i + d) bx0)
    · exact ⟨r, by rw [← Nat.add_assoc, askP_no h, hr]⟩
    · exact ⟨r ++ [((i + d : Nat) : Int)], by rw [← Nat.add_assoc, askP_yes h, hr, List.append_assoc]⟩
theorem ask_step {q : Bx → Bool} {L : List Bx} {i : Nat} (hi : i < L.length) (h : q (L.getD i bx0) = true) : (askP q L i).length < (askB q L).length ∧ (askB q L).getD (askP q L i).length 0 = (i : Int) := by
  obtain ⟨r, hr⟩ := askP_more q L (i + 1) (L.length - (i + 1))
  rw [show i + 1 + (L.length - (i + 1)) = L.length by omega, askP_all, askP_yes h] at hr
  rw [hr]
  constructor
  · simp
  · rw [List.getD_eq_getElem?_getD, List.append_assoc, List.getElem?_append_right (Nat.le_refl _), Nat.sub_self]; rfl
theorem askP_le (q : Bx → Bool) (L : List Bx) (i : Nat) : (askP q L i).length ≤ i := by
  unfold askP; exact Nat.le_trans (List.length_filter_le _ _) (by rw [allI_len]; omega)
theorem over_own (L : List Bx) (p : Pt) : askB (overQ (⟨p.x, p.y⟩, ⟨p.x + 1, p.y + 1⟩)) L = askB (atQ p) L := by
  rw [askB_filter, askB_filter]
  refine List.filter_congr fun x _ => ?_
  unfold overQ atQ boxMeet boxIn
  simp only [Bool.and_assoc]
  rw [Bool.eq_iff_iff]
  simp only [Bool.and_eq_true, decide_eq_true_eq]
  omega
set_option maxRecDepth 100000 in
set_option maxHeartbeats 8000000 in
theorem BoxtreeAll_any (ao : Option Addr) (n cap : Nat) (L : List Bx) (p : Pt) (w : World) (h : IsXB w ao n cap L) : Calls Try.prog 5 #[.slice ao n cap, ptV p] w fun e w' => e = .returned (.bool true) ∧ Below w.heap.size w w' := by
  obtain ⟨hix, hin⟩ := h
  have hn := hix.1
  have hnc := hix.2.1
  have hcm := hix.2.2.1
  unfold maxLen at hcm
  obtain ⟨W0, hW0⟩ : ∃ W, W = w.alloc (.cells #[.int .i64 p.x, .int .i64 p.y] 31) := ⟨_, rfl⟩
  have hb0 : Below w.heap.size w W0 := by rw [hW0]; exact (Below.refl _ _).alloc (Nat.le_refl _) _
  have k0 : W0.heap[w.heap.size]? = some (.cells #[.int .i64 p.x, .int .i64 p.y] 31 (0, 0)) := by rw [hW0]; exact alloc_new _ _
  have HPC : Hid (∀ wX, Below W0.heap.size W0 wX → wX.cell? ⟨w.heap.size, 0, none⟩ = some (.int .i64 p.x) ∧ wX.cell? ⟨w.heap.size, 1, none⟩ = some (.int .i64 p.y)) := Lib.hid (fun wX hX => by
    have q0 := (hX.block _ (heap_lt2 k0)).trans k0
    exact ⟨cell_of_row _ _ _ _ _ _ q0, cell_of_row _ _ _ _ _ _ q0⟩)
  have HI := Lib.hid (hix.later hb0 (Nat.le_refl _))
  have HB0 := Lib.hid hb0
  have HN := Lib.hid hn
  have HIN0 := Lib.hid hin
  clear hb0 k0 hix hn hin
  unfold ptV
  go_enter Try.func5, Try.ntmps5
  go_wp2_with fail
  rw [← hW0]
  clear hW0
  refine (awake_any W0).mono ?_
  rintro e w1 ⟨rfl, hb1⟩
  have HB1 := Lib.hid hb1
  obtain ⟨c0, c1⟩ := HPC.out w1 hb1
  by_cases h100 : 100 < n
  · have h100' : (100 : Int) < (n : Int) := by omega
    clear hb1
    go_wp2_with fail
    go_ret
    exact ⟨rfl, HB0.out.trans (HB1.out.mono HB0.out.size)⟩
  · have h100' : ¬ (100 : Int) < (n : Int) := by omega
    have hV := Valid_any p w1
    unfold ptV at hV
    have HV := Lib.hid hV
    clear hb1 hV
    go_wp2_with fail
    refine HV.out.mono ?_
    rintro e w2 ⟨rfl, hg2⟩
    have HB2 := Lib.hid (HB1.out.trans (hg2.1.mono HB1.out.size))
    clear hg2 c0 c1
    cases hvp : validP p
    · go_wp2_with fail
      go_ret
      exact ⟨rfl, HB0.out.trans (HB2.out.mono HB0.out.size)⟩
    · have hfit : -1099511627776 ≤ p.x ∧ p.x ≤ 1099511627776 ∧ -1099511627776 ≤ p.y ∧ p.y ≤ 1099511627776 := by
        unfold validP fitsC at hvp
        simp only [Bool.and_eq_true, decide_eq_true_eq] at hvp
        omega
      have HFIT := Lib.hid hfit
      have HU := Lib.hid (BuildT_any ao n cap L w2 (HI.out.later HB2.out (Nat.le_refl _)) HIN0.out)
      clear hfit
      go_wp2_with fail
      refine HU.out.mono ?_
      rintro e w3 ⟨_, hok, hb3⟩
      obtain ⟨g, rfl, _, ht3⟩ := hok (by rw [HN.out]; omega)
      have HB3 := Lib.hid (HB2.out.trans (hb3.mono HB2.out.size))
      obtain ⟨c0, c1⟩ := HPC.out w3 HB3.out
      have hA := At_any g L p w3 ht3
      unfold ptV at hA
      have HA := Lib.hid hA
      have HT := Lib.hid ht3
      clear hok hb3 hA ht3
      go_wp2_with fail
      refine HA.out.mono ?_
      rintro e w4 ⟨v4, rfl, ho4, hb4⟩
      obtain ⟨xa, xc, hv4, hx4⟩ := ho4.ints
      have hml := askP_le (atQ p) L L.length
      rw [askP_all, HN.out] at hml
      obtain ⟨m, hm⟩ : ∃ m, m = (askB (atQ p) L).length := ⟨_, rfl⟩
      rw [← hm] at hv4 hx4 hml
      subst hv4
      have HB4 := Lib.hid (HB3.out.trans (hb4.mono HB3.out.size))
      have HT4 := Lib.hid (HT.out.later hb4)
      have HX4 := Lib.hid hx4
      have HM := Lib.hid hm
      have hxm := hx4.2.1
      have hxcm := hx4.2.2.1
      unfold maxLen at hxcm
      clear ho4 hb4 hx4 hm c0 c1
      go_wp2_with fail
      go_loopw [9, 10] (fun kv iv wr => ∃ k i : Nat, i ≤ n ∧ k ≤ i ∧ kv = .int .i64 k ∧ iv = .int .i64 i ∧ Hid (k = (askP (atQ p) L i).length ∧ Below w4.heap.size w4 wr)) (fun _ iv _ => n - (intOf iv).toNat)
      case atStart => exact ⟨0, 0, by omega, by omega, rfl, rfl, Lib.hid ⟨rfl, Below.refl _ _⟩⟩
      case round =>
        obtain ⟨k, i, hi, hki, rfl, rfl, hst⟩ := hrel
        have HST := hst
        clear hst
        by_cases hlt : i < n
        · have hi5 : (i : Int) < (n : Int) := by omega
          have hwi : IntKind.i64.wrap ((i : Int) + 1) = (i : Int) + 1 := IntWalk.i64_in _ (by omega)
          have HBR := Lib.hid (HB4.out.trans (HST.out.2.mono HB4.out.size))
          obtain ⟨bb, off, hao, hat⟩ := (HI.out).2.2.2.2 (by omega)
          subst hao
          obtain ⟨b, hb⟩ : ∃ b, b = L.getD i bx0 := ⟨_, rfl⟩
          obtain ⟨r, hr⟩ : ∃ r, r = boxIn p b.1 b.2 := ⟨_, rfl⟩
          have HCELLS : Hid (∀ wX, Below wr.heap.size wr wX → wX.cell? ⟨w.heap.size, 0, none⟩ = some (.int .i64 p.x) ∧ wX.cell? ⟨w.heap.size, 1, none⟩ = some (.int .i64 p.y) ∧ wX.cell? ⟨bb, off + i * 4, none⟩ = some (.int .i64 b.1.x) ∧ wX.cell? ⟨bb, off + i * 4 + 1, none⟩ = some (.int .i64 b.1.y) ∧ wX.cell? ⟨bb, off + i * 4 + 2, none⟩ = some (.int .i64 b.2.x) ∧ wX.cell? ⟨bb, off + i * 4 + 3, none⟩ = some (.int .i64 b.2.y)) := Lib.hid (fun wX hX => by
            have hb5 := HBR.out.trans (hX.mono HBR.out.size)
            obtain ⟨c0, c1⟩ := HPC.out wX hb5
            have hq := (HI.out.later hb5 (Nat.le_refl _)).at (i := i) (by omega)
            obtain ⟨b2, off2, e, d0, d1, d2, d3⟩ := hq
            cases e
            rw [← hb] at d0 d1 d2 d3
            exact ⟨c0, c1, d0, d1, d2, d3⟩)
          have HIN : Hid (∀ wX, Below wr.heap.size wr wX → Calls Try.prog 21 #[.agg #[.int .i64 p.x, .int .i64 p.y], .agg #[.int .i64 b.1.x, .int .i64 b.1.y, .int .i64 b.2.x, .int .i64 b.2.y]] wX fun e w' => e = .returned (.bool r) ∧ Grew wX w') := Lib.hid (fun wX hX => by
            have := In_any p b.1 b.2 wX
            unfold ptV boxV at this
            rw [← hr] at this
            exact this)
          have HIX := Lib.hid (And.intro hi5 (show (0 : Int) ≤ (i : Int) by omega))
          have HR := Lib.hid (show atQ p (L.getD i bx0) = r by unfold atQ; rw [← hb, hr])
          clear hat hr hb
          go_wp2_with fail
          have HOK : ∀ f ∈ ([] : List Fct), FctOk f := by
            intro f hf; cases hf
          refine wp_region_J (s := [(41, 0), (42, 1), (43, 2), (44, 3), (45, 4), (46, 5), (47, 6)]) (by kernel_rfl) (GrowJ wr (fun iX => match iX with | 0 => some (.agg #[.int .i64 p.x, .int .i64 p.y]) | 1 => some (.slice (some ⟨bb, off, none⟩) n cap) | 2 => some (.int .i64 (i : Int)) | 3 => some (.pointer (some ⟨bb, off + i * 4, none⟩)) | 4 => some (.agg #[.int .i64 b.1.x, .int .i64 b.1.y, .int .i64 b.2.x, .int .i64 b.2.y]) | 5 => some (.bool r) | 6 => some (.bool (!r)) | _ => none) []) (by kernel_rfl) (by kernel_rfl) (by kernel_rfl) (by kernel_rfl) (fun _ => undef) ?start12 ?step12 ?done12
          case start12 => exact GrowJ.start ((Below.refl _ _).drew)
          case step12 =>
            refine ⟨?o12_0, ?o12_1, ?o12_2, ?o12_3, ?o12_4, ?o12_5, ?o12_6, trivial⟩
            case o12_0 =>
              intro LX V aX wX K hl hp hcl hf hJ hK
              have t3 : aX.tmps[3]? = some (.pointer (some ⟨w.heap.size, 0, none⟩)) := hf.old (by kernel_rfl) rfl
              obtain ⟨c0, c1, d0, d1, d2, d3⟩ := HCELLS.out wX hJ.below
              rw [if_pos (by rfl)]
              go_simp
              exact hK _ _ (hJ.val HOK 0 _ (by kernel_rfl) rfl (Below.refl _ _))
            case o12_1 =>
              intro LX V aX wX K hl hp hcl hf hJ hK
              have t0 : aX.tmps[0]? = some (.slice (some ⟨bb, off, none⟩) n cap) := hf.old (by kernel_rfl) rfl
              rw [if_pos (by rfl)]
              go_simp
              exact hK _ _ (hJ.val HOK 1 _ (by kernel_rfl) rfl (Below.refl _ _))
            case o12_2 =>
              intro LX V aX wX K hl hp hcl hf hJ hK
              have t10 : aX.tmps[10]? = some (.int .i64 (i : Int)) := hf.old (by kernel_rfl) rfl
              rw [if_pos (by rfl)]
              go_simp
              exact hK _ _ (hJ.val HOK 2 _ (by kernel_rfl) rfl (Below.refl _ _))
            case o12_3 =>
              intro LX V aX wX K hl hp hcl hf hJ hK
              have t42 := hf.in (i := 1) (d := 42) (by kernel_rfl) (hp 1 (by kernel_rfl)) (hJ.vals 1 _ rfl (hp 1 (by kernel_rfl)))
              have t43 := hf.in (i := 2) (d := 43) (by kernel_rfl) (hp 2 (by kernel_rfl)) (hJ.vals 2 _ rfl (hp 2 (by kernel_rfl)))
              have hix := HIX.out
              rw [if_pos (by rfl)]
              go_simp
              exact hK _ _ (hJ.val HOK 3 _ (by kernel_rfl) rfl (Below.refl _ _))
            case o12_4 =>
              intro LX V aX wX K hl hp hcl hf hJ hK
              have t44 := hf.in (i := 3) (d := 44) (by kernel_rfl) (hp 3 (by kernel_rfl)) (hJ.vals 3 _ rfl (hp 3 (by kernel_rfl)))
              obtain ⟨c0, c1, d0, d1, d2, d3⟩ := HCELLS.out wX hJ.below
              rw [if_pos (by rfl)]
              go_simp
              exact hK _ _ (hJ.val HOK 4 _ (by kernel_rfl) rfl (Below.refl _ _))
            case o12_5 =>
              intro LX V aX wX K hl hp hcl hf hJ hK
              have t41 := hf.in (i := 0) (d := 41) (by kernel_rfl) (hp 0 (by kernel_rfl)) (hJ.vals 0 _ rfl (hp 0 (by kernel_rfl)))
              have t45 := hf.in (i := 4) (d := 45) (by kernel_rfl) (hp 4 (by kernel_rfl)) (hJ.vals 4 _ rfl (hp 4 (by kernel_rfl)))
              rw [if_pos (by rfl)]
              go_simp
              refine (HIN.out _ hJ.below).mono ?_
              rintro e wA ⟨rfl, hgA⟩
              exact hK _ _ (hJ.val HOK 5 _ (by kernel_rfl) rfl (hgA.1))
            case o12_6 =>
              intro LX V aX wX K hl hp hcl hf hJ hK
              have t46 := hf.in (i := 5) (d := 46) (by kernel_rfl) (hp 5 (by kernel_rfl)) (hJ.vals 5 _ rfl (hp 5 (by kernel_rfl)))
              rw [if_pos (by rfl)]
              go_simp
              exact hK _ _ (hJ.val HOK 6 _ (by kernel_rfl) rfl (Below.refl _ _))
          intro V wZ hJ
          have hv := hJ.vals 6 _ rfl (by kernel_rfl)
          have HBZ := Lib.hid hJ.below
          simp only [puts, Act.put, List.setIfInBounds_toArray, List.set_cons_zero, List.set_cons_succ]
          rw [hv]
          clear hJ HOK hv
          cases r
          · go_wp2_with fail
            go_roundw
            case rel => exact ⟨k, i + 1, by omega, by omega, rfl, by go_num, Lib.hid ⟨by rw [askP_no HR.out]; exact HST.out.1, HST.out.2.trans (HBZ.out.mono HST.out.2.size)⟩⟩
            case measure => simp [intOf]; omega
          · obtain ⟨hq1, hq2⟩ := ask_step (q := atQ p) (L := L) (by rw [HN.out]; exact hlt) HR.out
            rw [← HST.out.1] at hq1 hq2
            rw [← HM.out] at hq1
            obtain ⟨bx, offx, hxa, hxat⟩ := HX4.out.2.2.2.1 (by omega)
            subst hxa
            have cx := hxat k hq1
            rw [hq2] at cx
            have cx2 := ((HST.out.2.trans (HBZ.out.mono HST.out.2.size)).cell (p := ⟨bx, offx + k, none⟩) (block_lt_of_cell cx)).trans cx
            have hq5 : (k : Int) < (m : Int) := by omega
            have hq6 : ¬ (m : Int) ≤ (k : Int) := by omega
            have hwk : IntKind.i64.wrap ((k : Int) + 1) = (k : Int) + 1 := IntWalk.i64_in _ (by omega)
            clear hxat cx hq2
            go_wp2_with fail
            go_roundw
            case rel => exact ⟨k + 1, i + 1, by omega, by omega, by go_num, by go_num, Lib.hid ⟨by rw [askP_yes HR.out, List.length_append, ← HST.out.1]; rfl, HST.out.2.trans (HBZ.out.mono HST.out.2.size)⟩⟩
            case measure => simp [intOf]; omega
        · have hin2 : i = n := by omega
          subst hin2
          have hkm : k = m := by rw [HM.out, HST.out.1, ← HN.out, askP_all]
          subst hkm
          have HBR := Lib.hid (HB4.out.trans (HST.out.2.mono HB4.out.size))
          obtain ⟨c0, c1⟩ := HPC.out wr HBR.out
          have hwx : IntKind.i64.wrap (p.x + 1) = p.x + 1 := IntWalk.i64_in _ (by have := HFIT.out; omega)
          have hwy : IntKind.i64.wrap (p.y + 1) = p.y + 1 := IntWalk.i64_in _ (by have := HFIT.out; omega)
          go_wp2_with fail
          refine (box_any p.x p.y (p.x + 1) (p.y + 1) wr).mono ?_
          rintro e w5 ⟨rfl, hb5⟩
          have hO := Over_any g L (⟨p.x, p.y⟩, ⟨p.x + 1, p.y + 1⟩) w5 ((HT4.out.later HST.out.2).later hb5)
          unfold boxV at hO
          have HO := Lib.hid hO
          have HB5 := Lib.hid (HST.out.2.trans (hb5.mono HST.out.2.size))
          clear hO hb5
          go_wp2_with fail
          refine HO.out.mono ?_
          rintro e w6 ⟨v6, rfl, ho6, hb6⟩
          rw [over_own] at ho6
          obtain ⟨ya, yc, hv6, hy6⟩ := ho6.ints
          rw [← HM.out] at hv6 hy6
          subst hv6
          have HB6 := Lib.hid (HB5.out.trans (hb6.mono HB5.out.size))
          have hS := SameInts_any ya xa k k yc xc _ _ w6 hy6 (HX4.out.later HB6.out (Nat.le_refl _))
          rw [show (askB (atQ p) L == askB (atQ p) L) = true from beq_self_eq_true _] at hS
          have HS := Lib.hid hS
          clear ho6 hb6 hy6 hS
          go_wp2_with fail
          refine HS.out.mono ?_
          rintro e w7 ⟨rfl, hg7⟩
          have HB7 := Lib.hid (HB0.out.trans ((HB4.out.trans ((HB6.out.trans (hg7.1.mono HB6.out.size)).mono HB4.out.size)).mono HB0.out.size))
          clear hg7
          go_wp2_with fail
          go_ret
          exact ⟨rfl, HB7.out⟩
end Go.Proofs.Ytlmmejdcjhbppaa
