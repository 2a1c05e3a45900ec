/- SlabSame: the walk (printed by mksame13.py) -/
import Derived.Test.YtdikecfplohpeaaMSAwake
import Derived.Test.YtdikecfplohpeaaMQRCheck
import Derived.Test.YtdikecfplohpeaaMQIn2
import Derived.Test.YtdikecfplohpeaaMQPick
import Derived.Test.YtdikecfplohpeaaMQCopy
import Derived.Test.YtdikecfplohpeaaMQCounts
import Derived.Test.YtdikecfplohpeaaMSlab3
set_option linter.unusedSimpArgs false
set_option linter.unusedVariables false
namespace Go.Proofs.Ytdikecfplohpeaa
open Go.RowKit Go.Geo
attribute [local go_sem] Oper.semAt_some
theorem getD_memR {R : List (List Pt)} {j : Nat} (h : j < R.length) : R.getD j [] ∈ R := by rw [getD_lt h]; exact List.getElem_mem h
/-- by how many places, of so many. -/
def pickN (x : Int) (n : Nat) : Nat := (x % (n : Int)).toNat
theorem pick_nat (x : Int) {n : Nat} (h : 0 < n) : pickP x n = (pickN x n : Int) ∧ pickN x n < n := by
  have h1 := Int.emod_nonneg x (show (n : Int) ≠ 0 by omega)
  have h2 := Int.emod_lt_of_pos x (show (0 : Int) < (n : Int) by omega)
  unfold pickP pickN
  rw [if_neg (by omega)]
  omega
/-- a region, its rings turned about. -/
def turnedR (R : List (List Pt)) (x : Int) : List (List Pt) := (List.range R.length).map fun i => turnL (R.getD ((i + pickN x R.length) % R.length) []) (pickN x (R.getD ((i + pickN x R.length) % R.length) []).length)
theorem range_turn (R : List (List Pt)) {b : Nat} (hb : b < R.length) : (List.range R.length).map (fun i => R.getD ((i + b) % R.length) []) = R.drop b ++ R.take b := by
  apply List.ext_getElem
  · simp; omega
  · intro i h1 h2
    have hi : i < R.length := by simpa using h1
    rw [List.getElem_map, List.getElem_range]
    by_cases h : i + b < R.length
    · rw [Nat.mod_eq_of_lt h, getD_lt h, List.getElem_append_left (by simp; omega), List.getElem_drop]
      congr 1
      omega
    · have e : (i + b) % R.length = i + b - R.length := by rw [Nat.mod_eq_sub_mod (by omega), Nat.mod_eq_of_lt (by omega)]
      rw [e, getD_lt (by omega), List.getElem_append_right (by simp; omega), List.getElem_take]
      congr 1
      simp
      omega
theorem turnedR_perm (R : List (List Pt)) (x : Int) : (turnedR R x).Perm (R.map fun l => turnL l (pickN x l.length)) := by
  by_cases h0 : R.length = 0
  · rw [List.eq_nil_of_length_eq_zero h0]; exact List.Perm.refl _
  · have e : turnedR R x = ((List.range R.length).map (fun i => R.getD ((i + pickN x R.length) % R.length) [])).map fun l => turnL l (pickN x l.length) := by
      rw [List.map_map]; rfl
    rw [e, range_turn R (pick_nat x (by omega)).2]
    refine List.Perm.map _ (List.perm_append_comm.trans ?_)
    rw [List.take_append_drop]
theorem turnedR_len (R : List (List Pt)) (x : Int) : (turnedR R x).length = R.length := by simp [turnedR]
theorem turnedR_get {R : List (List Pt)} {x : Int} {i : Nat} (h : i < R.length) : (turnedR R x).getD i [] = turnL (R.getD ((i + pickN x R.length) % R.length) []) (pickN x (R.getD ((i + pickN x R.length) % R.length) []).length) := by
  unfold turnedR
  rw [List.getD_eq_getElem?_getD, List.getElem?_map, List.getElem?_range h]; rfl
theorem turnedR_sum (R : List (List Pt)) (x : Int) : sumLen (turnedR R x) = sumLen R := by
  unfold sumLen
  rw [perm_sum ((turnedR_perm R x).map List.length), List.map_map]
  congr 1
  exact List.map_congr_left fun l _ => turnL_len l _
theorem turned_ok {R : List (List Pt)} (x : Int) (h : (regionCheckP R).1 = 0) : (regionCheckP (turnedR R x)).1 = 0 ∧ heightsP (turnedR R x) = heightsP R ∧ (slabsR (turnedR R x)).map List.length = (slabsR R).map List.length ∧ ∀ p, inR p (turnedR R x) = inR p R := by
  have hp := turnedR_perm R x
  have hh := heights_turn _ hp
  refine ⟨region_turn _ (fun l hl => (pick_nat x (by have := (ring_ok ((region_ok h).2.2.2 l hl)).1; omega)).2) hp h, hh, ?_, fun p => inR_turn p _ hp⟩
  unfold slabsR slabsK
  rw [hh, List.map_map, List.map_map]
  exact List.map_congr_left fun i _ => slabI_turn _ hp i
theorem most_len : ∀ (Es Fs : List (List Edg)) (m : Nat), Es.map List.length = Fs.map List.length → Es.foldl (fun m E => max m E.length) m = Fs.foldl (fun m E => max m E.length) m
  | [], [], m, _ => rfl
  | [], F :: Fs, m, h => by cases h
  | E :: Es, [], m, h => by cases h
  | E :: Es, F :: Fs, m, h => by
    rw [List.map_cons, List.map_cons] at h
    injection h with h1 h2
    rw [List.foldl_cons, List.foldl_cons, h1, most_len Es Fs _ h2]
/-- the law's own region. -/
structure TurnAt (ws : World) (gh : Nat) (v : Value) (T : List (List Pt)) (w : World) : Prop where
  cell : w.heap[gh]? = some (.cells #[v] 24 (0, 0))
  own : OwnR w (gh + 1) v T
  below : Below ws.heap.size ws w
theorem TurnAt.size {ws w : World} {gh : Nat} {v : Value} {T : List (List Pt)} (h : TurnAt ws gh v T w) : gh + 1 ≤ w.heap.size := heap_lt' h.cell
theorem TurnAt.later {ws w w' : World} {gh : Nat} {v : Value} {T : List (List Pt)} (h : TurnAt ws gh v T w) (hb : Below w.heap.size w w') : TurnAt ws gh v T w' :=
  ⟨(hb.block _ (heap_lt' h.cell)).trans h.cell, h.own.later hb, h.below.trans (hb.mono h.below.size)⟩
set_option maxRecDepth 100000 in
set_option maxHeartbeats 16000000 in
theorem SlabSame_any (ao : Option Addr) (n cap : Nat) (R : List (List Pt)) (ap : Option Addr) (np cp : Nat) (P : List Pt) (by_ : Int) (w : World) (h : IsRings w ao n cap R) (hk : Kept R) (hP : IsPts w ap np cp P) :
    Calls Try.prog 7 #[.agg #[.slice ao n cap], .slice ap np cp, .int .i64 by_] w fun e w' => e = .returned (.bool true) ∧ Below w.heap.size w w' := by
  have HL := Lib.hid h.1
  have hcm := h.2.2.1
  have hnc := h.2.1
  have hcp := hP.2.2.1
  have hnp := hP.2.1
  unfold maxLen at hcm hcp
  obtain ⟨W0, hW0⟩ : ∃ W, W = w.alloc (.cells #[.slice ao n cap] 24) := ⟨_, rfl⟩
  have hg0 : Below w.heap.size w W0 := by rw [hW0]; exact (Below.refl _ _).alloc (Nat.le_refl _) _
  have k0 : W0.heap[w.heap.size]? = some (.cells #[.slice ao n cap] 24 (0, 0)) := by rw [hW0]; exact alloc_new _ _
  have HI := Lib.hid (h.later hg0 (Nat.le_refl _))
  have HIP := Lib.hid (hP.later hg0 (Nat.le_refl _))
  have H0 := Lib.hid hg0
  have HC : Hid (∀ wr, Below W0.heap.size W0 wr → wr.cell? ⟨w.heap.size, 0, none⟩ = some (.slice ao n cap)) := Lib.hid (fun wr hb => cell_of_row _ _ _ _ _ _ ((hb.block _ (heap_lt' k0)).trans k0))
  have HBG : Hid (∀ w1, Below W0.heap.size W0 w1 → Calls Try.prog 8 #[.agg #[.slice ao n cap], .int .i64 120] w1 (BigPost R 120 w1)) := Lib.hid (fun w1 hb => BigRegion_any ao n cap R 120 w1 (HI.out.later hb (Nat.le_refl _)) hk (by omega))
  clear h hk hP hg0 k0
  go_enter Try.func7, Try.ntmps7
  go_wp2_with fail
  rw [← hW0]
  clear hW0
  refine (awake_any W0).mono ?_
  rintro e w1 ⟨rfl, hb1⟩
  have HB1 := Lib.hid hb1
  have c0 := HC.out w1 hb1
  clear hb1
  go_wp2_with fail
  refine (HBG.out w1 HB1.out).mono ?_
  rintro e w2 ⟨q, rfl, hq, hb2⟩
  have HB2 := Lib.hid (HB1.out.trans (hb2.mono HB1.out.size))
  have c0 := HC.out w2 HB2.out
  have HQB := Lib.hid hq
  clear hb2 hq
  cases q with
  | true =>
    go_wp2_with fail
    go_ret
    exact ⟨rfl, H0.out.trans (HB2.out.mono H0.out.size)⟩
  | false =>
  by_cases hp30 : 30 < np
  · have hp31 : (30 : Int) < (np : Int) := by omega
    go_wp2_with fail
    go_ret
    exact ⟨rfl, H0.out.trans (HB2.out.mono H0.out.size)⟩
  · have hp31 : ¬ (30 : Int) < (np : Int) := by omega
    obtain ⟨hq1, hq2⟩ := HQB.out rfl
    have HS := Lib.hid hq2
    have hn22 : n ≤ 22 := by rw [← HL.out]; exact hq1
    have HBU := Lib.hid (Build_any ao n cap R w2 (HI.out.later HB2.out (Nat.le_refl _)) (by omega))
    clear hq1 hq2 HQB
    go_wp2_with fail
    refine HBU.out.mono ?_
    rintro e w3 ⟨hb3, hok, hno⟩
    have HB3' := Lib.hid (HB2.out.trans (hb3.mono HB2.out.size))
    obtain ⟨fx, hfx⟩ : ∃ f, f = regionCheckP R := ⟨_, rfl⟩
    by_cases hz : (regionCheckP R).1 = 0
    · obtain ⟨g, rfl, hgs, how⟩ := hok hz
      have HSI := Lib.hid (slabs_is hz how)
      have HZ := Lib.hid hz
      have hn0 : 0 < n := by rw [← HL.out]; exact (region_ok hz).1
      have HTK := Lib.hid (turned_ok by_ hz)
      have h2H := heights_two hz
      have hHL := heights_len R
      clear hok hno hgs how hb3 c0 hfx hz
      obtain ⟨W3, hW3⟩ : ∃ W, W = w3.alloc (.cells #[.int .i64 0, .int .i64 0] 30) := ⟨_, rfl⟩
      have hb4 : Below w3.heap.size w3 W3 := by rw [hW3]; exact (Below.refl _ _).alloc (Nat.le_refl _) _
      obtain ⟨W4, hW4⟩ : ∃ W, W = W3.alloc (.cells #[.slice none 0 0] 24) := ⟨_, rfl⟩
      have hb5 : Below W3.heap.size W3 W4 := by rw [hW4]; exact (Below.refl _ _).alloc (Nat.le_refl _) _
      obtain ⟨gh, hgh⟩ : ∃ g, g = W3.heap.size := ⟨_, rfl⟩
      have ht4 : TurnAt W3 gh (.slice none 0 0) ((turnedR R by_).take 0) W4 := ⟨by rw [hW4, hgh]; exact alloc_new _ _, OwnR.nil _ _, hb5⟩
      have HT4 := Lib.hid ht4
      have HB3 := Lib.hid (HB3'.out.trans (hb4.mono HB3'.out.size))
      have HS3 := Lib.hid (HSI.out.later hb4)
      have HGX : Hid (w3.heap.size + 1 = gh) := Lib.hid (by rw [hgh, hW3]; simp)
      have HGH := Lib.hid (show W3.heap.size ≤ gh from by rw [hgh]; exact Nat.le_refl _)
      obtain ⟨br, or, hao⟩ : ∃ b o, ao = some ⟨b, o, none⟩ := by
        obtain ⟨b, o, _, _, _, h1, _⟩ := HI.out.2.2.2.2 0 hn0
        exact ⟨b, o, h1⟩
      subst hao
      obtain ⟨s0, hs0⟩ : ∃ s, s = pickN by_ n := ⟨_, rfl⟩
      have hpk := pick_nat by_ hn0
      rw [← hs0] at hpk
      obtain ⟨hpk1, hs0n⟩ := hpk
      have HPK : Hid (∀ (wX : World), Below W3.heap.size W3 wX → Calls Try.prog 22 #[.int .i64 by_, .int .i64 (n : Int)] wX fun e w' => e = .returned (.int .i64 (s0 : Int)) ∧ wX = w') := Lib.hid (fun wX _ => by
        have h := Pick_any by_ n wX (by omega)
        rw [hpk1] at h
        exact h)
      have HTG : Hid (∀ k, k < n → (turnedR R by_).getD k [] = turnL (R.getD ((k + s0) % n) []) (pickN by_ (R.getD ((k + s0) % n) []).length)) := Lib.hid (fun k hk => by
        have h := turnedR_get (R := R) (x := by_) (i := k) (by rw [HL.out]; exact hk)
        rw [HL.out, ← hs0] at h
        exact h)
      have HLR : Hid (∀ j, j < n → 0 < (R.getD j []).length ∧ (R.getD j []).length ≤ 200) := Lib.hid (fun j hj => by
        have h1 := (region_ok HZ.out).2.2.2 _ (getD_memR (R := R) (j := j) (by rw [HL.out]; exact hj))
        have h2 := ring_ok h1
        omega)
      clear hpk1 hs0 hb4 hb5 ht4
      go_wp2_with fail
      rw [← hW3, ← hW4, HGX.out]
      clear hW3 hW4 hgh
      have c0 : W4.cell? ⟨w.heap.size, 0, none⟩ = some (.slice (some ⟨br, or, none⟩) n cap) := HC.out W4 (HB3.out.trans (HT4.out.below.mono HB3.out.size))
      clear c0
      go_loopw [11] (fun i wr => ∃ k : Nat, k ≤ n ∧ i = .int .i64 k ∧ Hid (∃ v, TurnAt W3 gh v ((turnedR R by_).take k) wr)) (fun i _ => n - (intOf i).toNat)
      case atStart => exact ⟨0, by omega, rfl, Lib.hid ⟨_, HT4.out⟩⟩
      case round =>
        obtain ⟨k, hk, rfl, hT⟩ := hrel
        obtain ⟨v, hT⟩ := hT.out
        have HT := Lib.hid hT
        have c0 : wr.cell? ⟨w.heap.size, 0, none⟩ = some (.slice (some ⟨br, or, none⟩) n cap) := HC.out wr (HB3.out.trans (HT.out.below.mono HB3.out.size))
        clear hT
        by_cases hlt : k < n
        · have hk0 : (0 : Int) ≤ (k : Int) := by omega
          have hk5 : (k : Int) < (n : Int) := by omega
          have hwk : IntKind.i64.wrap ((k : Int) + 1) = (k : Int) + 1 := IntWalk.i64_in _ (by omega)
          obtain ⟨j, hj⟩ : ∃ j, j = (k + s0) % n := ⟨_, rfl⟩
          have hjn : j < n := by rw [hj]; exact Nat.mod_lt _ hn0
          have hje : ((k : Int) + (s0 : Int)) % (n : Int) = (j : Int) := by rw [hj, Int.natCast_emod, Int.natCast_add]
          obtain ⟨b', o', x, y, z, hbo, e0, hp⟩ := (HI.out.later (HB3.out.trans (HT.out.below.mono HB3.out.size)) (Nat.le_refl _)).2.2.2.2 j hjn
          cases hbo
          have HW0 : Hid (IntKind.i64.wrap ((k : Int) + (s0 : Int)) = (k : Int) + (s0 : Int)) := Lib.hid (IntWalk.i64_in _ (by omega))
          have HQ : Hid ((0 : Int) ≤ (k : Int) + (s0 : Int) ∧ Int.tmod ((k : Int) + (s0 : Int)) (n : Int) = (j : Int) ∧ ((k : Int) + (s0 : Int)) % (n : Int) = (j : Int) ∧ ¬ (n : Int) = 0 ∧ ((n : Int) == 0) = false ∧ ¬ n = 0) := Lib.hid ⟨by omega, by rw [Int.tmod_eq_emod_of_nonneg (by omega)]; exact hje, hje, by omega, by simp; omega, by omega⟩
          have HJN : Hid ((0 : Int) ≤ (j : Int) ∧ (j : Int) < (n : Int)) := Lib.hid ⟨by omega, by omega⟩
          have HCE : Hid (∀ wX, Below wr.heap.size wr wX → wX.cell? ⟨w.heap.size, 0, none⟩ = some (.slice (some ⟨br, or, none⟩) n cap) ∧ wX.cell? ⟨br, or + j, none⟩ = some (.slice x y z)) := Lib.hid (fun wX hX => ⟨(hX.cell (p := ⟨w.heap.size, 0, none⟩) (block_lt_of_cell c0)).trans c0, (hX.cell (p := ⟨br, or + j, none⟩) (block_lt_of_cell e0)).trans e0⟩)
          have HPK2 : Hid (∀ (wX : World), Below wr.heap.size wr wX → Calls Try.prog 22 #[.int .i64 by_, .int .i64 (n : Int)] wX fun e w' => e = .returned (.int .i64 (s0 : Int)) ∧ wX = w') := Lib.hid (fun wX hX => HPK.out wX (HT.out.below.trans (hX.mono HT.out.below.size)))
          obtain ⟨L, hLd⟩ : ∃ L, L = R.getD j [] := ⟨_, rfl⟩
          have hLR := HLR.out j hjn
          have hTGk := HTG.out k hlt
          rw [← hj, ← hLd] at hTGk
          rw [← hLd] at hp hLR
          have hLy := hp.1
          have HTGk := Lib.hid hTGk
          have HIL := Lib.hid hp
          obtain ⟨s1, hs1⟩ : ∃ s, s = pickN by_ y := ⟨_, rfl⟩
          have hy0 : 0 < y := by omega
          have hy2 : y ≤ 200 := by omega
          have hpk := pick_nat by_ hy0
          rw [← hs1] at hpk
          obtain ⟨hpk1, hs1n⟩ := hpk
          have HPY : Hid (∀ (wX : World), Calls Try.prog 22 #[.int .i64 by_, .int .i64 (y : Int)] wX fun e w' => e = .returned (.int .i64 (s1 : Int)) ∧ wX = w') := Lib.hid (fun wX => by
            have h := Pick_any by_ y wX (by omega)
            rw [hpk1] at h
            exact h)
          have HTL : Hid ((turnedR R by_).getD k [] = turnL L s1) := Lib.hid (by rw [HTGk.out, hLy, hs1])
          have HLY := Lib.hid hLy
          have HCX := Lib.hid HCE.out
          clear hj hje hLd hTGk HTGk hp hLR hpk1 hs1 hLy e0
          go_wp2_with fail
          clear c0
          have HOK : ∀ f ∈ ([] : List Fct), FctOk f := by
            intro f hf; cases hf
          refine wp_region_J (s := [(44, 0), (45, 1), (46, 2), (47, 3), (48, 4), (49, 5), (50, 6), (51, 7), (52, 8), (53, 9), (54, 10), (55, 11), (56, 12), (57, 13), (58, 14), (12, 15)]) (by kernel_rfl) (GrowJ wr (fun iX => match iX with | 0 => some (.pointer (some ⟨w.heap.size, 0, none⟩)) | 1 => some (.slice (some ⟨br, or, none⟩) n cap) | 2 => some (.int .i64 (k : Int)) | 3 => some (.int .i64 (by_)) | 4 => some (.pointer (some ⟨w.heap.size, 0, none⟩)) | 5 => some (.slice (some ⟨br, or, none⟩) n cap) | 6 => some (.int .i64 (n : Int)) | 7 => some (.int .i64 (s0 : Int)) | 8 => some (.int .i64 ((k : Int) + (s0 : Int))) | 9 => some (.pointer (some ⟨w.heap.size, 0, none⟩)) | 10 => some (.slice (some ⟨br, or, none⟩) n cap) | 11 => some (.int .i64 (n : Int)) | 12 => some (.int .i64 (j : Int)) | 13 => some (.pointer (some ⟨br, or + j, none⟩)) | 14 => some (.slice x y z) | 15 => some (.slice x y z) | _ => none) []) (by kernel_rfl) (by kernel_rfl) (by kernel_rfl) (by kernel_rfl) (fun _ => undef) ?start11 ?step11 ?done11
          case start11 => exact GrowJ.start ((Below.refl _ _).drew)
          case step11 =>
            refine ⟨?o11_0, ?o11_1, ?o11_2, ?o11_3, ?o11_4, ?o11_5, ?o11_6, ?o11_7, ?o11_8, ?o11_9, ?o11_10, ?o11_11, ?o11_12, ?o11_13, ?o11_14, ?o11_15, trivial⟩
            case o11_0 =>
              intro LX V aX wX K hl hp hcl hf hJ hK
              have t3 : aX.tmps[3]? = some (.pointer (some ⟨w.heap.size, 0, none⟩)) := hf.old (by kernel_rfl) rfl
              rw [if_pos (by rfl)]
              go_simp
              exact hK _ _ (hJ.val HOK 0 _ (by kernel_rfl) rfl (Below.refl _ _))
            case o11_1 =>
              intro LX V aX wX K hl hp hcl hf hJ hK
              have t44 := hf.in (i := 0) (d := 44) (by kernel_rfl) (hp 0 (by kernel_rfl)) (hJ.vals 0 _ rfl (hp 0 (by kernel_rfl)))
              obtain ⟨c0, c1⟩ := HCE.out wX hJ.below
              rw [if_pos (by rfl)]
              go_simp
              exact hK _ _ (hJ.val HOK 1 _ (by kernel_rfl) rfl (Below.refl _ _))
            case o11_2 =>
              intro LX V aX wX K hl hp hcl hf hJ hK
              have t11 : aX.tmps[11]? = some (.int .i64 (k : Int)) := hf.old (by kernel_rfl) rfl
              rw [if_pos (by rfl)]
              go_simp
              exact hK _ _ (hJ.val HOK 2 _ (by kernel_rfl) rfl (Below.refl _ _))
            case o11_3 =>
              intro LX V aX wX K hl hp hcl hf hJ hK
              have t2 : aX.tmps[2]? = some (.int .i64 (by_)) := hf.old (by kernel_rfl) rfl
              rw [if_pos (by rfl)]
              go_simp
              exact hK _ _ (hJ.val HOK 3 _ (by kernel_rfl) rfl (Below.refl _ _))
            case o11_4 =>
              intro LX V aX wX K hl hp hcl hf hJ hK
              have t3 : aX.tmps[3]? = some (.pointer (some ⟨w.heap.size, 0, none⟩)) := hf.old (by kernel_rfl) rfl
              rw [if_pos (by rfl)]
              go_simp
              exact hK _ _ (hJ.val HOK 4 _ (by kernel_rfl) rfl (Below.refl _ _))
            case o11_5 =>
              intro LX V aX wX K hl hp hcl hf hJ hK
              have t48 := hf.in (i := 4) (d := 48) (by kernel_rfl) (hp 4 (by kernel_rfl)) (hJ.vals 4 _ rfl (hp 4 (by kernel_rfl)))
              obtain ⟨c0, c1⟩ := HCE.out wX hJ.below
              rw [if_pos (by rfl)]
              go_simp
              exact hK _ _ (hJ.val HOK 5 _ (by kernel_rfl) rfl (Below.refl _ _))
            case o11_6 =>
              intro LX V aX wX K hl hp hcl hf hJ hK
              have t49 := hf.in (i := 5) (d := 49) (by kernel_rfl) (hp 5 (by kernel_rfl)) (hJ.vals 5 _ rfl (hp 5 (by kernel_rfl)))
              rw [if_pos (by rfl)]
              go_simp
              exact hK _ _ (hJ.val HOK 6 _ (by kernel_rfl) rfl (Below.refl _ _))
            case o11_7 =>
              intro LX V aX wX K hl hp hcl hf hJ hK
              have t47 := hf.in (i := 3) (d := 47) (by kernel_rfl) (hp 3 (by kernel_rfl)) (hJ.vals 3 _ rfl (hp 3 (by kernel_rfl)))
              have t50 := hf.in (i := 6) (d := 50) (by kernel_rfl) (hp 6 (by kernel_rfl)) (hJ.vals 6 _ rfl (hp 6 (by kernel_rfl)))
              rw [if_pos (by rfl)]
              go_simp
              refine (HPK2.out _ hJ.below).mono ?_
              rintro e wA ⟨rfl, rfl⟩
              exact hK _ _ (hJ.val HOK 7 _ (by kernel_rfl) rfl (Below.refl _ _))
            case o11_8 =>
              intro LX V aX wX K hl hp hcl hf hJ hK
              have t46 := hf.in (i := 2) (d := 46) (by kernel_rfl) (hp 2 (by kernel_rfl)) (hJ.vals 2 _ rfl (hp 2 (by kernel_rfl)))
              have t51 := hf.in (i := 7) (d := 51) (by kernel_rfl) (hp 7 (by kernel_rfl)) (hJ.vals 7 _ rfl (hp 7 (by kernel_rfl)))
              have hw := HW0.out
              rw [if_pos (by rfl)]
              go_simp
              exact hK _ _ (hJ.val HOK 8 _ (by kernel_rfl) rfl (Below.refl _ _))
            case o11_9 =>
              intro LX V aX wX K hl hp hcl hf hJ hK
              have t3 : aX.tmps[3]? = some (.pointer (some ⟨w.heap.size, 0, none⟩)) := hf.old (by kernel_rfl) rfl
              rw [if_pos (by rfl)]
              go_simp
              exact hK _ _ (hJ.val HOK 9 _ (by kernel_rfl) rfl (Below.refl _ _))
            case o11_10 =>
              intro LX V aX wX K hl hp hcl hf hJ hK
              have t53 := hf.in (i := 9) (d := 53) (by kernel_rfl) (hp 9 (by kernel_rfl)) (hJ.vals 9 _ rfl (hp 9 (by kernel_rfl)))
              obtain ⟨c0, c1⟩ := HCE.out wX hJ.below
              rw [if_pos (by rfl)]
              go_simp
              exact hK _ _ (hJ.val HOK 10 _ (by kernel_rfl) rfl (Below.refl _ _))
            case o11_11 =>
              intro LX V aX wX K hl hp hcl hf hJ hK
              have t54 := hf.in (i := 10) (d := 54) (by kernel_rfl) (hp 10 (by kernel_rfl)) (hJ.vals 10 _ rfl (hp 10 (by kernel_rfl)))
              rw [if_pos (by rfl)]
              go_simp
              exact hK _ _ (hJ.val HOK 11 _ (by kernel_rfl) rfl (Below.refl _ _))
            case o11_12 =>
              intro LX V aX wX K hl hp hcl hf hJ hK
              have t52 := hf.in (i := 8) (d := 52) (by kernel_rfl) (hp 8 (by kernel_rfl)) (hJ.vals 8 _ rfl (hp 8 (by kernel_rfl)))
              have t55 := hf.in (i := 11) (d := 55) (by kernel_rfl) (hp 11 (by kernel_rfl)) (hJ.vals 11 _ rfl (hp 11 (by kernel_rfl)))
              obtain ⟨hw, hq1, hq2, hn1, hn2, hn3⟩ := HQ.out
              rw [if_pos (by rfl)]
              go_simp
              exact hK _ _ (hJ.val HOK 12 _ (by kernel_rfl) rfl (Below.refl _ _))
            case o11_13 =>
              intro LX V aX wX K hl hp hcl hf hJ hK
              have t45 := hf.in (i := 1) (d := 45) (by kernel_rfl) (hp 1 (by kernel_rfl)) (hJ.vals 1 _ rfl (hp 1 (by kernel_rfl)))
              have t56 := hf.in (i := 12) (d := 56) (by kernel_rfl) (hp 12 (by kernel_rfl)) (hJ.vals 12 _ rfl (hp 12 (by kernel_rfl)))
              obtain ⟨hj1, hj2⟩ := HJN.out
              rw [if_pos (by rfl)]
              go_simp
              exact hK _ _ (hJ.val HOK 13 _ (by kernel_rfl) rfl (Below.refl _ _))
            case o11_14 =>
              intro LX V aX wX K hl hp hcl hf hJ hK
              have t57 := hf.in (i := 13) (d := 57) (by kernel_rfl) (hp 13 (by kernel_rfl)) (hJ.vals 13 _ rfl (hp 13 (by kernel_rfl)))
              obtain ⟨c0, c1⟩ := HCE.out wX hJ.below
              rw [if_pos (by rfl)]
              go_simp
              exact hK _ _ (hJ.val HOK 14 _ (by kernel_rfl) rfl (Below.refl _ _))
            case o11_15 =>
              intro LX V aX wX K hl hp hcl hf hJ hK
              have t58 := hf.in (i := 14) (d := 58) (by kernel_rfl) (hp 14 (by kernel_rfl)) (hJ.vals 14 _ rfl (hp 14 (by kernel_rfl)))
              rw [if_pos (by rfl)]
              go_simp
              exact hK _ _ (hJ.val HOK 15 _ (by kernel_rfl) rfl (Below.refl _ _))
          intro V wk hJ
          have hv := hJ.vals 15 _ rfl (by kernel_rfl)
          have hbk := hJ.below
          simp only [puts, Act.put, List.setIfInBounds_toArray, List.set_cons_zero, List.set_cons_succ]
          rw [hv]
          clear hJ HOK hv
          have HBK := Lib.hid hbk
          have hTk := HT.out.later hbk
          have HTk := Lib.hid hTk
          clear hbk hTk
          go_wp2_with fail
          go_loopw [13, 14] (fun m i wj => ∃ jj : Nat, jj ≤ y ∧ i = .int .i64 jj ∧ Hid (OwnP wj wk.heap.size m ((turnL L s1).take jj)) ∧ Hid (Below wk.heap.size wk wj)) (fun _ i _ => y - (intOf i).toNat)
          case atStart => exact ⟨0, by omega, rfl, Lib.hid (World.ownsRow_nil _ _ _ _), Below.refl _ _⟩
          case round =>
            obtain ⟨jj, hjj, rfl, hom, hbj⟩ := hrel
            have hjj0 : (0 : Int) ≤ (jj : Int) := by omega
            by_cases hjy : jj < y
            · have hjy5 : (jj : Int) < (y : Int) := by omega
              have hwj : IntKind.i64.wrap ((jj : Int) + 1) = (jj : Int) + 1 := IntWalk.i64_in _ (by omega)
              obtain ⟨qi, hqi⟩ : ∃ q, q = (y - 1 - jj + s1) % y := ⟨_, rfl⟩
              have hqy : qi < y := by rw [hqi]; exact Nat.mod_lt _ hy0
              have hqy5 : (qi : Int) < (y : Int) := by omega
              have hqy0 : (0 : Int) ≤ (qi : Int) := by omega
              have hqe : ((y : Int) - 1 - (jj : Int) + (s1 : Int)) % (y : Int) = (qi : Int) := by rw [hqi, Int.natCast_emod, show (y : Int) - 1 - (jj : Int) + (s1 : Int) = ((y - 1 - jj + s1 : Nat) : Int) by omega]
              have hqt : Int.tmod ((y : Int) - 1 - (jj : Int) + (s1 : Int)) (y : Int) = (qi : Int) := by rw [Int.tmod_eq_emod_of_nonneg (by omega)]; exact hqe
              have hw1 : IntKind.i64.wrap ((y : Int) - 1) = (y : Int) - 1 := IntWalk.i64_in _ (by omega)
              have hw2 : IntKind.i64.wrap ((y : Int) - 1 - (jj : Int)) = (y : Int) - 1 - (jj : Int) := IntWalk.i64_in _ (by omega)
              have hw3 : IntKind.i64.wrap ((y : Int) - 1 - (jj : Int) + (s1 : Int)) = (y : Int) - 1 - (jj : Int) + (s1 : Int) := IntWalk.i64_in _ (by omega)
              have hz1 : ¬ (y : Int) = 0 := by omega
              have hz2 : ((y : Int) == 0) = false := by simp; omega
              have hz3 : ¬ y = 0 := by omega
              have hz4 : (0 : Int) ≤ (y : Int) - 1 - (jj : Int) + (s1 : Int) := by omega
              obtain ⟨bx, ox, hx, e0, e1⟩ := ((HIL.out.later HBK.out (Nat.le_refl _)).later hbj.out (Nat.le_refl _)).at hqy
              subst hx
              have hnx : (turnL L s1).take (jj + 1) = (turnL L s1).take jj ++ [L.getD qi p0] := by
                have h := take_more (l := turnL L s1) (d := p0) (k := jj) (by rw [turnL_len, HLY.out]; exact hjy)
                rw [turnL_get (by rw [HLY.out]; exact hjy)] at h
                unfold atP at h
                rw [HLY.out, ← hqi] at h
                exact h
              have HNX := Lib.hid hnx
              obtain ⟨q, hq⟩ : ∃ q, q = L.getD qi p0 := ⟨_, rfl⟩
              rw [← hq] at e0 e1 HNX
              have hal : Below wr.heap.size wr (wr.alloc (.cells #[.int .i64 q.x, .int .i64 q.y] 40)) := (Below.refl _ _).alloc (Nat.le_refl _) _
              have HAL := Lib.hid hal
              clear hqi hnx hq hal
              go_wp2_with fail
              refine (HPY.out wr).mono ?_
              rintro e wz ⟨rfl, rfl⟩
              go_wp2_with (at_builtin; refine wpList_append_pts rfl _ _ rfl wk.heap.size _ ((turnL L s1).take jj) rfl (hom.out.later HAL.out) _ _ _ [q] rfl (pt1 wr q) (by rw [List.length_take, turnL_len, HLY.out]; omega) (Nat.le_trans hbj.out.size HAL.out.size) ?_
                           intro v5 w5 hown5 hg5
                           have hb5 : Below wk.heap.size wk w5 := (hbj.out.trans (HAL.out.mono hbj.out.size)).grown hg5 (Nat.le_trans hbj.out.size HAL.out.size) (fun b hb => (hom.out.lt b hb).1)
                           have H5 := Lib.hid (And.intro hown5 hb5)
                           clear hown5 hg5 hb5)
              go_roundw
              case rel => exact ⟨jj + 1, by omega, by go_num, by rw [HNX.out]; exact Lib.hid H5.out.1, Lib.hid H5.out.2⟩
              case measure => simp [intOf]; omega
            · have hjy2 : y = jj := by omega
              subst hjy2
              have hjy5 : ¬ (y : Int) < (y : Int) := by omega
              have hom2 := hom.out
              rw [List.take_of_length_le (by rw [turnL_len, HLY.out]; exact Nat.le_refl _)] at hom2
              have hlm : (turnL L s1).length = y := by rw [turnL_len, HLY.out]
              obtain ⟨am, cm, hvm, _⟩ := hom2.pts
              rw [hlm] at hvm
              subst hvm
              have hT5 := HTk.out.later hbj.out
              have hc5 : wr.cell? ⟨gh, 0, none⟩ = some v := cell_of_row _ _ _ _ _ _ hT5.cell
              have hT6 := hT5.later ((Below.refl _ _).alloc (Nat.le_refl _) (.cells #[.slice am y cm] 56))
              have hc6 : (wr.alloc (.cells #[.slice am y cm] 56)).cell? ⟨gh, 0, none⟩ = some v := cell_of_row _ _ _ _ _ _ hT6.cell
              have hom3 : OwnP (wr.alloc (.cells #[.slice am y cm] 56)) (gh + 1) (.slice am (turnL L s1).length cm) (turnL L s1) := by
                rw [hlm]
                exact (hom2.base HTk.out.size).later ((Below.refl _ _).alloc (Nat.le_refl _) _)
              have HO3 := Lib.hid hom3
              have HT6 := Lib.hid hT6
              have HLM := Lib.hid hlm
              have HNX : Hid ((turnedR R by_).take (k + 1) = (turnedR R by_).take k ++ [turnL L s1]) := Lib.hid (by rw [← HTL.out]; exact take_moreR (by rw [turnedR_len, HL.out]; exact hlt))
              have hlk : ((turnedR R by_).take k).length ≤ 4294967296 := by rw [List.length_take]; omega
              have HLK := Lib.hid hlk
              clear hom2 hlm hT5 hT6 hom3 hom hlk
              go_wp2_with (at_builtin; refine wpList_append_rings rfl _ _ rfl (gh + 1) v ((turnedR R by_).take k) rfl HT6.out.own wr.heap.size rfl am cm (turnL L s1) HO3.out (by rw [HLM.out]; exact alloc_new _ _) HLK.out HT6.out.size ?_
                           intro v7 w7 hown7 hg7
                           obtain ⟨a7, c7, hv7, _⟩ := hown7.rings
                           obtain ⟨n7, hn7⟩ : ∃ m, m = ((turnedR R by_).take k ++ [turnL L s1]).length := ⟨_, rfl⟩
                           rw [← hn7] at hv7
                           subst hv7
                           have hb7 : Below (gh + 1) (wr.alloc (.cells #[.slice am y cm] 56)) w7 := (Below.refl _ _).grown hg7 HT6.out.size (fun b hb => (HT6.out.own.lt b hb).1)
                           have h7 := (hb7.block gh (by omega)).trans HT6.out.cell
                           have h8 : TurnAt W3 gh (.slice a7 n7 c7) ((turnedR R by_).take (k + 1)) (w7.setCell ⟨gh, 0, none⟩ (.slice a7 n7 c7)) := ⟨heap_setCell_same _ _ 0 _ _ (.slice a7 n7 c7) h7, by rw [HNX.out]; exact hown7.setCell h7 (by decide) (by decide), (HT6.out.below.trans (hb7.mono (Nat.le_trans HGH.out (Nat.le_succ _)))).setCell (p := ⟨gh, 0, none⟩) HGH.out _⟩
                           have hc7 : w7.cell? ⟨gh, 0, none⟩ = some v := cell_of_row _ _ _ _ _ _ h7
                           have hf7 : w7.frozen? ⟨gh, 0, none⟩ = false := frozen_of_row _ _ _ _ _ h7
                           have H8 := Lib.hid h8
                           clear hown7 hg7 hb7 h7 h8 hn7)
              go_roundw
              case rel => exact ⟨k + 1, by omega, by go_num, Lib.hid ⟨_, H8.out⟩⟩
              case measure => simp [intOf]; omega
        · have hkn : n = k := by omega
          subst hkn
          have hk5 : ¬ (n : Int) < (n : Int) := by omega
          have hfull : (turnedR R by_).take n = turnedR R by_ := List.take_of_length_le (by rw [turnedR_len, HL.out]; exact Nat.le_refl _)
          have hT2 := HT.out
          rw [hfull] at hT2
          obtain ⟨at_, ct, hvt, hrt⟩ := hT2.own.rings
          have hc5 : wr.cell? ⟨gh, 0, none⟩ = some v := cell_of_row _ _ _ _ _ _ hT2.cell
          obtain ⟨nt, hnt⟩ : ∃ m, m = (turnedR R by_).length := ⟨_, rfl⟩
          rw [← hnt] at hvt hrt
          subst hvt
          have HBT := Lib.hid (Build_any at_ nt ct (turnedR R by_) wr hrt (by rw [turnedR_sum]; have := HS.out; omega))
          have HBR := Lib.hid hT2.below
          clear hfull hT2 hrt hnt HT
          go_wp2_with fail
          refine HBT.out.mono ?_
          rintro e w8 ⟨hb8, hok, _⟩
          obtain ⟨g2, rfl, _, how2⟩ := hok HTK.out.1
          have HB8 := Lib.hid (HBR.out.trans (hb8.mono HBR.out.size))
          have HSI2 := Lib.hid (slabs_is HTK.out.1 how2)
          have HS8 := Lib.hid (HS3.out.later HB8.out)
          clear hb8 hok how2 hc5 c0
          obtain ⟨W9, hW9⟩ : ∃ W, W = w8.alloc (.cells #[.int .i64 0, .int .i64 0] 30) := ⟨_, rfl⟩
          have hb9 : Below w8.heap.size w8 W9 := by rw [hW9]; exact (Below.refl _ _).alloc (Nat.le_refl _) _
          have HB9 := Lib.hid (HB8.out.trans (hb9.mono HB8.out.size))
          have HS9 := Lib.hid (HS8.out.later hb9)
          have HS29 := Lib.hid (HSI2.out.later hb9)
          obtain ⟨m, hm⟩ : ∃ m, m = (slabsR R).length := ⟨_, rfl⟩
          obtain ⟨mo, hmo⟩ : ∃ m, m = mostE (slabsR R) := ⟨_, rfl⟩
          have hl2 : (slabsR (turnedR R by_)).length = m := by have h := congrArg List.length HTK.out.2.2.1; simpa [hm] using h
          have hmo2 : mostE (slabsR (turnedR R by_)) = mo := by rw [hmo]; exact most_len _ _ 0 HTK.out.2.2.1
          have hLE : ∀ wX, Below W9.heap.size W9 wX → Calls Try.prog 12 #[.pointer (some ⟨g, 0, none⟩)] wX fun e w' => e = .returned (.int .i64 (m : Int)) ∧ w' = wX := fun wX hX => by
            have h := Len_any g _ _ wX (HS9.out.later hX)
            rw [← hm] at h
            exact h
          have hLE2 : ∀ wX, Below W9.heap.size W9 wX → Calls Try.prog 12 #[.pointer (some ⟨g2, 0, none⟩)] wX fun e w' => e = .returned (.int .i64 (m : Int)) ∧ w' = wX := fun wX hX => by
            have h := Len_any g2 _ _ wX (HS29.out.later hX)
            rw [hl2] at h
            exact h
          have hMO : ∀ wX, Below W9.heap.size W9 wX → Calls Try.prog 15 #[.pointer (some ⟨g, 0, none⟩)] wX fun e w' => e = .returned (.int .i64 (mo : Int)) ∧ Below wX.heap.size wX w' := fun wX hX => by
            have h := Most_any g _ _ wX (HS9.out.later hX)
            rw [← hmo] at h
            exact h
          have hMO2 : ∀ wX, Below W9.heap.size W9 wX → Calls Try.prog 15 #[.pointer (some ⟨g2, 0, none⟩)] wX fun e w' => e = .returned (.int .i64 (mo : Int)) ∧ Below wX.heap.size wX w' := fun wX hX => by
            have h := Most_any g2 _ _ wX (HS29.out.later hX)
            rw [hmo2] at h
            exact h
          have HLE := Lib.hid hLE
          have HLE2 := Lib.hid hLE2
          have HMO := Lib.hid hMO
          have HMO2 := Lib.hid hMO2
          have hmm : ((m : Int) != (m : Int)) = false := by simp
          have hmm2 : ((mo : Int) != (mo : Int)) = false := by simp
          clear hm hmo hl2 hmo2 hLE hLE2 hMO hMO2 hb9
          go_wp2_with fail
          rw [← hW9]
          clear hW9
          refine (HLE.out W9 (Below.refl _ _)).mono ?_
          rintro e W9 ⟨rfl, rfl⟩
          go_wp2_with fail
          refine (HLE2.out W9 (Below.refl _ _)).mono ?_
          rintro e W9 ⟨rfl, rfl⟩
          go_wp2_with fail
          refine (HMO.out W9 (Below.refl _ _)).mono ?_
          rintro e w10 ⟨rfl, hb10⟩
          have HB10 := Lib.hid hb10
          clear hb10
          go_wp2_with fail
          refine (HMO2.out w10 HB10.out).mono ?_
          rintro e w11 ⟨rfl, hb11⟩
          have HB11 := Lib.hid (HB10.out.trans (hb11.mono HB10.out.size))
          clear hb11
          go_wp2_with fail
          go_loopw [17] (fun i wr => ∃ k : Nat, k ≤ np ∧ i = .int .i64 k ∧ Hid (Below W9.heap.size W9 wr)) (fun i _ => np - (intOf i).toNat)
          case atStart => exact ⟨0, by omega, rfl, HB11⟩
          case round =>
            obtain ⟨i, hi, rfl, hbi⟩ := hrel
            have hi0 : (0 : Int) ≤ (i : Int) := by omega
            by_cases hip : i < np
            · have hip5 : (i : Int) < (np : Int) := by omega
              have hwi : IntKind.i64.wrap ((i : Int) + 1) = (i : Int) + 1 := IntWalk.i64_in _ (by omega)
              have HBR2 : Hid (Below W0.heap.size W0 wr) := Lib.hid (HB3.out.trans ((HB9.out.trans (hbi.out.mono HB9.out.size)).mono HB3.out.size))
              obtain ⟨bp, op, hx, e0, e1⟩ := (HIP.out.later HBR2.out (Nat.le_refl _)).at hip
              subst hx
              obtain ⟨q, hq⟩ : ∃ q, q = P.getD i p0 := ⟨_, rfl⟩
              rw [← hq] at e0 e1
              obtain ⟨a, ha⟩ : ∃ a, a = inR q R := ⟨_, rfl⟩
              obtain ⟨cN, hcN⟩ : ∃ c, c = crossE (heightsP R) (slabsR R) q := ⟨_, rfl⟩
              obtain ⟨cR, hcR⟩ : ∃ c, c = cN % 2 := ⟨_, rfl⟩
              have HIS : Hid (∀ wX, Below wr.heap.size wr wX → Calls Try.prog 16 #[.pointer (some ⟨g, 0, none⟩), .agg #[.int .i64 q.x, .int .i64 q.y]] wX fun e w' => e = .returned (.bool a) ∧ Below wX.heap.size wX w') := Lib.hid (fun wX hX => by
                have h := SIn_any g _ _ q wX ((HS9.out.later hbi.out).later hX) (heights_sorted R)
                rw [inR_slab, ← ha] at h
                exact h)
              have HIT : Hid (∀ wX, Below wr.heap.size wr wX → Calls Try.prog 16 #[.pointer (some ⟨g2, 0, none⟩), .agg #[.int .i64 q.x, .int .i64 q.y]] wX fun e w' => e = .returned (.bool a) ∧ Below wX.heap.size wX w') := Lib.hid (fun wX hX => by
                have h := SIn_any g2 _ _ q wX ((HS29.out.later hbi.out).later hX) (heights_sorted _)
                rw [inR_slab, HTK.out.2.2.2, ← ha] at h
                exact h)
              have HIR : Hid (∀ wX, Below wr.heap.size wr wX → Calls Try.prog 23 #[.agg #[.int .i64 q.x, .int .i64 q.y], .agg #[.slice (some ⟨br, or, none⟩) n cap]] wX fun e w' => e = .returned (.bool a) ∧ Below wX.heap.size wX w') := Lib.hid (fun wX hX => by
                have h := In_region q _ n cap R wX (HI.out.later (HBR2.out.trans (hX.mono HBR2.out.size)) (Nat.le_refl _))
                rw [← ha] at h
                exact h)
              have HCR : Hid (∀ wX, Below wr.heap.size wr wX → Calls Try.prog 17 #[.pointer (some ⟨g, 0, none⟩), .agg #[.int .i64 q.x, .int .i64 q.y]] wX fun e w' => e = .returned (.int .i64 (cN : Int)) ∧ Below wX.heap.size wX w') := Lib.hid (fun wX hX => by
                have h := Crossings_any g _ _ q wX ((HS9.out.later hbi.out).later hX) (heights_sorted R)
                rw [← hcN] at h
                exact h)
              have HAA : Hid ((a != a) = false) := Lib.hid (by simp)
              have HCN : Hid ((0 : Int) ≤ (cN : Int) ∧ Int.tmod (cN : Int) 2 = (cR : Int) ∧ (cN : Int) % 2 = (cR : Int)) := Lib.hid ⟨by omega, by rw [Int.tmod_eq_emod_of_nonneg (by omega), hcR]; omega, by rw [hcR]; omega⟩
              have HCE3 : Hid (((cR : Int) == 1) = a) := Lib.hid (by
                rw [ha, ← inR_slab, ← hcN]
                unfold oddB
                rw [← hcR]
                rcases (show cR = 0 ∨ cR = 1 by omega) with h | h <;> rw [h] <;> rfl)
              have HQI : Hid ((0 : Int) ≤ (i : Int) ∧ (i : Int) < (np : Int)) := Lib.hid ⟨hi0, hip5⟩
              have HCP : Hid (∀ wX, Below wr.heap.size wr wX → wX.cell? ⟨bp, op + i * 2, none⟩ = some (.int .i64 q.x) ∧ wX.cell? ⟨bp, op + i * 2 + 1, none⟩ = some (.int .i64 q.y) ∧ wX.cell? ⟨w.heap.size, 0, none⟩ = some (.slice (some ⟨br, or, none⟩) n cap)) := Lib.hid (fun wX hX => ⟨(hX.cell (p := ⟨bp, op + i * 2, none⟩) (block_lt_of_cell e0)).trans e0, (hX.cell (p := ⟨bp, op + i * 2 + 1, none⟩) (block_lt_of_cell e1)).trans e1, HC.out wX (HBR2.out.trans (hX.mono HBR2.out.size))⟩)
              clear ha hcN hcR hq e0 e1
              go_wp2_with fail
              have HOK : ∀ f ∈ ([] : List Fct), FctOk f := by
                intro f hf; cases hf
              refine wp_region_J (s := [(126, 0), (127, 1), (128, 2), (129, 3), (130, 4), (131, 5), (132, 6), (133, 7), (134, 8), (135, 9), (136, 10), (137, 11), (138, 12), (139, 13), (140, 14), (141, 15), (142, 16), (143, 17), (144, 18), (145, 19), (146, 20), (147, 21), (148, 22), (149, 23), (150, 24), (151, 25), (152, 26), (153, 27), (154, 28), (155, 29), (156, 30), (157, 31), (158, 32), (159, 33), (160, 34), (161, 35), (162, 36), (163, 37), (164, 38), (165, 39), (166, 40), (167, 41), (168, 42), (169, 43), (170, 44)]) (by kernel_rfl) (GrowJ wr (fun iX => match iX with | 0 => some (.pointer (some ⟨g, 0, none⟩)) | 1 => some (.slice (some ⟨bp, op, none⟩) np cp) | 2 => some (.int .i64 (i : Int)) | 3 => some (.pointer (some ⟨bp, op + i * 2, none⟩)) | 4 => some (.agg #[.int .i64 q.x, .int .i64 q.y]) | 5 => some (.bool a) | 6 => some (.slice (some ⟨bp, op, none⟩) np cp) | 7 => some (.int .i64 (i : Int)) | 8 => some (.pointer (some ⟨bp, op + i * 2, none⟩)) | 9 => some (.agg #[.int .i64 q.x, .int .i64 q.y]) | 10 => some (.agg #[.slice (some ⟨br, or, none⟩) n cap]) | 11 => some (.bool a) | 12 => some (.bool false) | 13 => some (.bool false) | 14 => some (.pointer (some ⟨g2, 0, none⟩)) | 15 => some (.slice (some ⟨bp, op, none⟩) np cp) | 16 => some (.int .i64 (i : Int)) | 17 => some (.pointer (some ⟨bp, op + i * 2, none⟩)) | 18 => some (.agg #[.int .i64 q.x, .int .i64 q.y]) | 19 => some (.bool a) | 20 => some (.pointer (some ⟨g, 0, none⟩)) | 21 => some (.slice (some ⟨bp, op, none⟩) np cp) | 22 => some (.int .i64 (i : Int)) | 23 => some (.pointer (some ⟨bp, op + i * 2, none⟩)) | 24 => some (.agg #[.int .i64 q.x, .int .i64 q.y]) | 25 => some (.bool a) | 26 => some (.bool false) | 27 => some (.bool false) | 28 => some (.bool false) | 29 => some (.pointer (some ⟨g, 0, none⟩)) | 30 => some (.slice (some ⟨bp, op, none⟩) np cp) | 31 => some (.int .i64 (i : Int)) | 32 => some (.pointer (some ⟨bp, op + i * 2, none⟩)) | 33 => some (.agg #[.int .i64 q.x, .int .i64 q.y]) | 34 => some (.bool a) | 35 => some (.pointer (some ⟨g, 0, none⟩)) | 36 => some (.slice (some ⟨bp, op, none⟩) np cp) | 37 => some (.int .i64 (i : Int)) | 38 => some (.pointer (some ⟨bp, op + i * 2, none⟩)) | 39 => some (.agg #[.int .i64 q.x, .int .i64 q.y]) | 40 => some (.int .i64 (cN : Int)) | 41 => some (.int .i64 (cR : Int)) | 42 => some (.bool a) | 43 => some (.bool false) | 44 => some (.bool false) | _ => none) []) (by kernel_rfl) (by kernel_rfl) (by kernel_rfl) (by kernel_rfl) (fun _ => undef) ?start24 ?step24 ?done24
              case start24 => exact GrowJ.start ((Below.refl _ _).drew)
              case step24 =>
                refine ⟨?o24_0, ?o24_1, ?o24_2, ?o24_3, ?o24_4, ?o24_5, ?o24_6, ?o24_7, ?o24_8, ?o24_9, ?o24_10, ?o24_11, ?o24_12, ?o24_13, ?o24_14, ?o24_15, ?o24_16, ?o24_17, ?o24_18, ?o24_19, ?o24_20, ?o24_21, ?o24_22, ?o24_23, ?o24_24, ?o24_25, ?o24_26, ?o24_27, ?o24_28, ?o24_29, ?o24_30, ?o24_31, ?o24_32, ?o24_33, ?o24_34, ?o24_35, ?o24_36, ?o24_37, ?o24_38, ?o24_39, ?o24_40, ?o24_41, ?o24_42, ?o24_43, ?o24_44, trivial⟩
                case o24_0 =>
                  intro LX V aX wX K hl hp hcl hf hJ hK
                  have t8 : aX.tmps[8]? = some (.pointer (some ⟨g, 0, none⟩)) := hf.old (by kernel_rfl) rfl
                  rw [if_pos (by rfl)]
                  go_simp
                  exact hK _ _ (hJ.val HOK 0 _ (by kernel_rfl) rfl (Below.refl _ _))
                case o24_1 =>
                  intro LX V aX wX K hl hp hcl hf hJ hK
                  have t1 : aX.tmps[1]? = some (.slice (some ⟨bp, op, none⟩) np cp) := hf.old (by kernel_rfl) rfl
                  rw [if_pos (by rfl)]
                  go_simp
                  exact hK _ _ (hJ.val HOK 1 _ (by kernel_rfl) rfl (Below.refl _ _))
                case o24_2 =>
                  intro LX V aX wX K hl hp hcl hf hJ hK
                  have t17 : aX.tmps[17]? = some (.int .i64 (i : Int)) := hf.old (by kernel_rfl) rfl
                  rw [if_pos (by rfl)]
                  go_simp
                  exact hK _ _ (hJ.val HOK 2 _ (by kernel_rfl) rfl (Below.refl _ _))
                case o24_3 =>
                  intro LX V aX wX K hl hp hcl hf hJ hK
                  have t127 := hf.in (i := 1) (d := 127) (by kernel_rfl) (hp 1 (by kernel_rfl)) (hJ.vals 1 _ rfl (hp 1 (by kernel_rfl)))
                  have t128 := hf.in (i := 2) (d := 128) (by kernel_rfl) (hp 2 (by kernel_rfl)) (hJ.vals 2 _ rfl (hp 2 (by kernel_rfl)))
                  obtain ⟨c0, c1, c2⟩ := HCP.out wX hJ.below
                  have q0 := HQI.out
                  rw [if_pos (by rfl)]
                  go_simp
                  exact hK _ _ (hJ.val HOK 3 _ (by kernel_rfl) rfl (Below.refl _ _))
                case o24_4 =>
                  intro LX V aX wX K hl hp hcl hf hJ hK
                  have t129 := hf.in (i := 3) (d := 129) (by kernel_rfl) (hp 3 (by kernel_rfl)) (hJ.vals 3 _ rfl (hp 3 (by kernel_rfl)))
                  obtain ⟨c0, c1, c2⟩ := HCP.out wX hJ.below
                  have q0 := HQI.out
                  rw [if_pos (by rfl)]
                  go_simp
                  exact hK _ _ (hJ.val HOK 4 _ (by kernel_rfl) rfl (Below.refl _ _))
                case o24_5 =>
                  intro LX V aX wX K hl hp hcl hf hJ hK
                  have t126 := hf.in (i := 0) (d := 126) (by kernel_rfl) (hp 0 (by kernel_rfl)) (hJ.vals 0 _ rfl (hp 0 (by kernel_rfl)))
                  have t130 := hf.in (i := 4) (d := 130) (by kernel_rfl) (hp 4 (by kernel_rfl)) (hJ.vals 4 _ rfl (hp 4 (by kernel_rfl)))
                  rw [if_pos (by rfl)]
                  go_simp
                  refine (HIS.out _ hJ.below).mono ?_
                  rintro e wA ⟨rfl, hbA⟩
                  exact hK _ _ (hJ.val HOK 5 _ (by kernel_rfl) rfl (hbA))
                case o24_6 =>
                  intro LX V aX wX K hl hp hcl hf hJ hK
                  have t1 : aX.tmps[1]? = some (.slice (some ⟨bp, op, none⟩) np cp) := hf.old (by kernel_rfl) rfl
                  rw [if_pos (by rfl)]
                  go_simp
                  exact hK _ _ (hJ.val HOK 6 _ (by kernel_rfl) rfl (Below.refl _ _))
                case o24_7 =>
                  intro LX V aX wX K hl hp hcl hf hJ hK
                  have t17 : aX.tmps[17]? = some (.int .i64 (i : Int)) := hf.old (by kernel_rfl) rfl
                  rw [if_pos (by rfl)]
                  go_simp
                  exact hK _ _ (hJ.val HOK 7 _ (by kernel_rfl) rfl (Below.refl _ _))
                case o24_8 =>
                  intro LX V aX wX K hl hp hcl hf hJ hK
                  have t132 := hf.in (i := 6) (d := 132) (by kernel_rfl) (hp 6 (by kernel_rfl)) (hJ.vals 6 _ rfl (hp 6 (by kernel_rfl)))
                  have t133 := hf.in (i := 7) (d := 133) (by kernel_rfl) (hp 7 (by kernel_rfl)) (hJ.vals 7 _ rfl (hp 7 (by kernel_rfl)))
                  obtain ⟨c0, c1, c2⟩ := HCP.out wX hJ.below
                  have q0 := HQI.out
                  rw [if_pos (by rfl)]
                  go_simp
                  exact hK _ _ (hJ.val HOK 8 _ (by kernel_rfl) rfl (Below.refl _ _))
                case o24_9 =>
                  intro LX V aX wX K hl hp hcl hf hJ hK
                  have t134 := hf.in (i := 8) (d := 134) (by kernel_rfl) (hp 8 (by kernel_rfl)) (hJ.vals 8 _ rfl (hp 8 (by kernel_rfl)))
                  obtain ⟨c0, c1, c2⟩ := HCP.out wX hJ.below
                  have q0 := HQI.out
                  rw [if_pos (by rfl)]
                  go_simp
                  exact hK _ _ (hJ.val HOK 9 _ (by kernel_rfl) rfl (Below.refl _ _))
                case o24_10 =>
                  intro LX V aX wX K hl hp hcl hf hJ hK
                  have t3 : aX.tmps[3]? = some (.pointer (some ⟨w.heap.size, 0, none⟩)) := hf.old (by kernel_rfl) rfl
                  obtain ⟨c0, c1, c2⟩ := HCP.out wX hJ.below
                  have q0 := HQI.out
                  rw [if_pos (by rfl)]
                  go_simp
                  exact hK _ _ (hJ.val HOK 10 _ (by kernel_rfl) rfl (Below.refl _ _))
                case o24_11 =>
                  intro LX V aX wX K hl hp hcl hf hJ hK
                  have t135 := hf.in (i := 9) (d := 135) (by kernel_rfl) (hp 9 (by kernel_rfl)) (hJ.vals 9 _ rfl (hp 9 (by kernel_rfl)))
                  have t136 := hf.in (i := 10) (d := 136) (by kernel_rfl) (hp 10 (by kernel_rfl)) (hJ.vals 10 _ rfl (hp 10 (by kernel_rfl)))
                  rw [if_pos (by rfl)]
                  go_simp
                  refine (HIR.out _ hJ.below).mono ?_
                  rintro e wA ⟨rfl, hbA⟩
                  exact hK _ _ (hJ.val HOK 11 _ (by kernel_rfl) rfl (hbA))
                case o24_12 =>
                  intro LX V aX wX K hl hp hcl hf hJ hK
                  have t131 := hf.in (i := 5) (d := 131) (by kernel_rfl) (hp 5 (by kernel_rfl)) (hJ.vals 5 _ rfl (hp 5 (by kernel_rfl)))
                  have t137 := hf.in (i := 11) (d := 137) (by kernel_rfl) (hp 11 (by kernel_rfl)) (hJ.vals 11 _ rfl (hp 11 (by kernel_rfl)))
                  have ha := HAA.out
                  rw [if_pos (by rfl)]
                  go_simp
                  exact hK _ _ (hJ.val HOK 12 _ (by kernel_rfl) rfl (Below.refl _ _))
                case o24_13 =>
                  intro LX V aX wX K hl hp hcl hf hJ hK
                  have t138 := hf.in (i := 12) (d := 138) (by kernel_rfl) (hp 12 (by kernel_rfl)) (hJ.vals 12 _ rfl (hp 12 (by kernel_rfl)))
                  rw [if_pos (by rfl)]
                  go_simp
                  exact hK _ _ (hJ.val HOK 13 _ (by kernel_rfl) rfl (Below.refl _ _))
                case o24_14 =>
                  intro LX V aX wX K hl hp hcl hf hJ hK
                  have t15 : aX.tmps[15]? = some (.pointer (some ⟨g2, 0, none⟩)) := hf.old (by kernel_rfl) rfl
                  have t139 := hf.in (i := 13) (d := 139) (by kernel_rfl) (hp 13 (by kernel_rfl)) (hJ.vals 13 _ rfl (hp 13 (by kernel_rfl)))
                  rw [if_pos (wanted_of rfl rfl t139)]
                  go_simp
                  exact hK _ _ (hJ.val HOK 14 _ (by kernel_rfl) rfl (Below.refl _ _))
                case o24_15 =>
                  intro LX V aX wX K hl hp hcl hf hJ hK
                  have t1 : aX.tmps[1]? = some (.slice (some ⟨bp, op, none⟩) np cp) := hf.old (by kernel_rfl) rfl
                  have t139 := hf.in (i := 13) (d := 139) (by kernel_rfl) (hp 13 (by kernel_rfl)) (hJ.vals 13 _ rfl (hp 13 (by kernel_rfl)))
                  rw [if_pos (wanted_of rfl rfl t139)]
                  go_simp
                  exact hK _ _ (hJ.val HOK 15 _ (by kernel_rfl) rfl (Below.refl _ _))
                case o24_16 =>
                  intro LX V aX wX K hl hp hcl hf hJ hK
                  have t17 : aX.tmps[17]? = some (.int .i64 (i : Int)) := hf.old (by kernel_rfl) rfl
                  have t139 := hf.in (i := 13) (d := 139) (by kernel_rfl) (hp 13 (by kernel_rfl)) (hJ.vals 13 _ rfl (hp 13 (by kernel_rfl)))
                  rw [if_pos (wanted_of rfl rfl t139)]
                  go_simp
                  exact hK _ _ (hJ.val HOK 16 _ (by kernel_rfl) rfl (Below.refl _ _))
                case o24_17 =>
                  intro LX V aX wX K hl hp hcl hf hJ hK
                  have t141 := hf.in (i := 15) (d := 141) (by kernel_rfl) (hp 15 (by kernel_rfl)) (hJ.vals 15 _ rfl (hp 15 (by kernel_rfl)))
                  have t142 := hf.in (i := 16) (d := 142) (by kernel_rfl) (hp 16 (by kernel_rfl)) (hJ.vals 16 _ rfl (hp 16 (by kernel_rfl)))
                  have t139 := hf.in (i := 13) (d := 139) (by kernel_rfl) (hp 13 (by kernel_rfl)) (hJ.vals 13 _ rfl (hp 13 (by kernel_rfl)))
                  obtain ⟨c0, c1, c2⟩ := HCP.out wX hJ.below
                  have q0 := HQI.out
                  rw [if_pos (wanted_of rfl rfl t139)]
                  go_simp
                  exact hK _ _ (hJ.val HOK 17 _ (by kernel_rfl) rfl (Below.refl _ _))
                case o24_18 =>
                  intro LX V aX wX K hl hp hcl hf hJ hK
                  have t143 := hf.in (i := 17) (d := 143) (by kernel_rfl) (hp 17 (by kernel_rfl)) (hJ.vals 17 _ rfl (hp 17 (by kernel_rfl)))
                  have t139 := hf.in (i := 13) (d := 139) (by kernel_rfl) (hp 13 (by kernel_rfl)) (hJ.vals 13 _ rfl (hp 13 (by kernel_rfl)))
                  obtain ⟨c0, c1, c2⟩ := HCP.out wX hJ.below
                  have q0 := HQI.out
                  rw [if_pos (wanted_of rfl rfl t139)]
                  go_simp
                  exact hK _ _ (hJ.val HOK 18 _ (by kernel_rfl) rfl (Below.refl _ _))
                case o24_19 =>
                  intro LX V aX wX K hl hp hcl hf hJ hK
                  have t140 := hf.in (i := 14) (d := 140) (by kernel_rfl) (hp 14 (by kernel_rfl)) (hJ.vals 14 _ rfl (hp 14 (by kernel_rfl)))
                  have t144 := hf.in (i := 18) (d := 144) (by kernel_rfl) (hp 18 (by kernel_rfl)) (hJ.vals 18 _ rfl (hp 18 (by kernel_rfl)))
                  have t139 := hf.in (i := 13) (d := 139) (by kernel_rfl) (hp 13 (by kernel_rfl)) (hJ.vals 13 _ rfl (hp 13 (by kernel_rfl)))
                  rw [if_pos (wanted_of rfl rfl t139)]
                  go_simp
                  refine (HIT.out _ hJ.below).mono ?_
                  rintro e wA ⟨rfl, hbA⟩
                  exact hK _ _ (hJ.val HOK 19 _ (by kernel_rfl) rfl (hbA))
                case o24_20 =>
                  intro LX V aX wX K hl hp hcl hf hJ hK
                  have t8 : aX.tmps[8]? = some (.pointer (some ⟨g, 0, none⟩)) := hf.old (by kernel_rfl) rfl
                  have t139 := hf.in (i := 13) (d := 139) (by kernel_rfl) (hp 13 (by kernel_rfl)) (hJ.vals 13 _ rfl (hp 13 (by kernel_rfl)))
                  rw [if_pos (wanted_of rfl rfl t139)]
                  go_simp
                  exact hK _ _ (hJ.val HOK 20 _ (by kernel_rfl) rfl (Below.refl _ _))
                case o24_21 =>
                  intro LX V aX wX K hl hp hcl hf hJ hK
                  have t1 : aX.tmps[1]? = some (.slice (some ⟨bp, op, none⟩) np cp) := hf.old (by kernel_rfl) rfl
                  have t139 := hf.in (i := 13) (d := 139) (by kernel_rfl) (hp 13 (by kernel_rfl)) (hJ.vals 13 _ rfl (hp 13 (by kernel_rfl)))
                  rw [if_pos (wanted_of rfl rfl t139)]
                  go_simp
                  exact hK _ _ (hJ.val HOK 21 _ (by kernel_rfl) rfl (Below.refl _ _))
                case o24_22 =>
                  intro LX V aX wX K hl hp hcl hf hJ hK
                  have t17 : aX.tmps[17]? = some (.int .i64 (i : Int)) := hf.old (by kernel_rfl) rfl
                  have t139 := hf.in (i := 13) (d := 139) (by kernel_rfl) (hp 13 (by kernel_rfl)) (hJ.vals 13 _ rfl (hp 13 (by kernel_rfl)))
                  rw [if_pos (wanted_of rfl rfl t139)]
                  go_simp
                  exact hK _ _ (hJ.val HOK 22 _ (by kernel_rfl) rfl (Below.refl _ _))
                case o24_23 =>
                  intro LX V aX wX K hl hp hcl hf hJ hK
                  have t147 := hf.in (i := 21) (d := 147) (by kernel_rfl) (hp 21 (by kernel_rfl)) (hJ.vals 21 _ rfl (hp 21 (by kernel_rfl)))
                  have t148 := hf.in (i := 22) (d := 148) (by kernel_rfl) (hp 22 (by kernel_rfl)) (hJ.vals 22 _ rfl (hp 22 (by kernel_rfl)))
                  have t139 := hf.in (i := 13) (d := 139) (by kernel_rfl) (hp 13 (by kernel_rfl)) (hJ.vals 13 _ rfl (hp 13 (by kernel_rfl)))
                  obtain ⟨c0, c1, c2⟩ := HCP.out wX hJ.below
                  have q0 := HQI.out
                  rw [if_pos (wanted_of rfl rfl t139)]
                  go_simp
                  exact hK _ _ (hJ.val HOK 23 _ (by kernel_rfl) rfl (Below.refl _ _))
                case o24_24 =>
                  intro LX V aX wX K hl hp hcl hf hJ hK
                  have t149 := hf.in (i := 23) (d := 149) (by kernel_rfl) (hp 23 (by kernel_rfl)) (hJ.vals 23 _ rfl (hp 23 (by kernel_rfl)))
                  have t139 := hf.in (i := 13) (d := 139) (by kernel_rfl) (hp 13 (by kernel_rfl)) (hJ.vals 13 _ rfl (hp 13 (by kernel_rfl)))
                  obtain ⟨c0, c1, c2⟩ := HCP.out wX hJ.below
                  have q0 := HQI.out
                  rw [if_pos (wanted_of rfl rfl t139)]
                  go_simp
                  exact hK _ _ (hJ.val HOK 24 _ (by kernel_rfl) rfl (Below.refl _ _))
                case o24_25 =>
                  intro LX V aX wX K hl hp hcl hf hJ hK
                  have t146 := hf.in (i := 20) (d := 146) (by kernel_rfl) (hp 20 (by kernel_rfl)) (hJ.vals 20 _ rfl (hp 20 (by kernel_rfl)))
                  have t150 := hf.in (i := 24) (d := 150) (by kernel_rfl) (hp 24 (by kernel_rfl)) (hJ.vals 24 _ rfl (hp 24 (by kernel_rfl)))
                  have t139 := hf.in (i := 13) (d := 139) (by kernel_rfl) (hp 13 (by kernel_rfl)) (hJ.vals 13 _ rfl (hp 13 (by kernel_rfl)))
                  rw [if_pos (wanted_of rfl rfl t139)]
                  go_simp
                  refine (HIS.out _ hJ.below).mono ?_
                  rintro e wA ⟨rfl, hbA⟩
                  exact hK _ _ (hJ.val HOK 25 _ (by kernel_rfl) rfl (hbA))
                case o24_26 =>
                  intro LX V aX wX K hl hp hcl hf hJ hK
                  have t145 := hf.in (i := 19) (d := 145) (by kernel_rfl) (hp 19 (by kernel_rfl)) (hJ.vals 19 _ rfl (hp 19 (by kernel_rfl)))
                  have t151 := hf.in (i := 25) (d := 151) (by kernel_rfl) (hp 25 (by kernel_rfl)) (hJ.vals 25 _ rfl (hp 25 (by kernel_rfl)))
                  have t139 := hf.in (i := 13) (d := 139) (by kernel_rfl) (hp 13 (by kernel_rfl)) (hJ.vals 13 _ rfl (hp 13 (by kernel_rfl)))
                  have ha := HAA.out
                  rw [if_pos (wanted_of rfl rfl t139)]
                  go_simp
                  exact hK _ _ (hJ.val HOK 26 _ (by kernel_rfl) rfl (Below.refl _ _))
                case o24_27 =>
                  intro LX V aX wX K hl hp hcl hf hJ hK
                  have t139 := hf.in (i := 13) (d := 139) (by kernel_rfl) (hp 13 (by kernel_rfl)) (hJ.vals 13 _ rfl (hp 13 (by kernel_rfl)))
                  have t152 := hf.in (i := 26) (d := 152) (by kernel_rfl) (hp 26 (by kernel_rfl)) (hJ.vals 26 _ rfl (hp 26 (by kernel_rfl)))
                  rw [if_pos (by rfl)]
                  go_simp
                  exact hK _ _ (hJ.val HOK 27 _ (by kernel_rfl) rfl (Below.refl _ _))
                case o24_28 =>
                  intro LX V aX wX K hl hp hcl hf hJ hK
                  have t153 := hf.in (i := 27) (d := 153) (by kernel_rfl) (hp 27 (by kernel_rfl)) (hJ.vals 27 _ rfl (hp 27 (by kernel_rfl)))
                  rw [if_pos (by rfl)]
                  go_simp
                  exact hK _ _ (hJ.val HOK 28 _ (by kernel_rfl) rfl (Below.refl _ _))
                case o24_29 =>
                  intro LX V aX wX K hl hp hcl hf hJ hK
                  have t8 : aX.tmps[8]? = some (.pointer (some ⟨g, 0, none⟩)) := hf.old (by kernel_rfl) rfl
                  have t154 := hf.in (i := 28) (d := 154) (by kernel_rfl) (hp 28 (by kernel_rfl)) (hJ.vals 28 _ rfl (hp 28 (by kernel_rfl)))
                  rw [if_pos (wanted_of rfl rfl t154)]
                  go_simp
                  exact hK _ _ (hJ.val HOK 29 _ (by kernel_rfl) rfl (Below.refl _ _))
                case o24_30 =>
                  intro LX V aX wX K hl hp hcl hf hJ hK
                  have t1 : aX.tmps[1]? = some (.slice (some ⟨bp, op, none⟩) np cp) := hf.old (by kernel_rfl) rfl
                  have t154 := hf.in (i := 28) (d := 154) (by kernel_rfl) (hp 28 (by kernel_rfl)) (hJ.vals 28 _ rfl (hp 28 (by kernel_rfl)))
                  rw [if_pos (wanted_of rfl rfl t154)]
                  go_simp
                  exact hK _ _ (hJ.val HOK 30 _ (by kernel_rfl) rfl (Below.refl _ _))
                case o24_31 =>
                  intro LX V aX wX K hl hp hcl hf hJ hK
                  have t17 : aX.tmps[17]? = some (.int .i64 (i : Int)) := hf.old (by kernel_rfl) rfl
                  have t154 := hf.in (i := 28) (d := 154) (by kernel_rfl) (hp 28 (by kernel_rfl)) (hJ.vals 28 _ rfl (hp 28 (by kernel_rfl)))
                  rw [if_pos (wanted_of rfl rfl t154)]
                  go_simp
                  exact hK _ _ (hJ.val HOK 31 _ (by kernel_rfl) rfl (Below.refl _ _))
                case o24_32 =>
                  intro LX V aX wX K hl hp hcl hf hJ hK
                  have t156 := hf.in (i := 30) (d := 156) (by kernel_rfl) (hp 30 (by kernel_rfl)) (hJ.vals 30 _ rfl (hp 30 (by kernel_rfl)))
                  have t157 := hf.in (i := 31) (d := 157) (by kernel_rfl) (hp 31 (by kernel_rfl)) (hJ.vals 31 _ rfl (hp 31 (by kernel_rfl)))
                  have t154 := hf.in (i := 28) (d := 154) (by kernel_rfl) (hp 28 (by kernel_rfl)) (hJ.vals 28 _ rfl (hp 28 (by kernel_rfl)))
                  obtain ⟨c0, c1, c2⟩ := HCP.out wX hJ.below
                  have q0 := HQI.out
                  rw [if_pos (wanted_of rfl rfl t154)]
                  go_simp
                  exact hK _ _ (hJ.val HOK 32 _ (by kernel_rfl) rfl (Below.refl _ _))
                case o24_33 =>
                  intro LX V aX wX K hl hp hcl hf hJ hK
                  have t158 := hf.in (i := 32) (d := 158) (by kernel_rfl) (hp 32 (by kernel_rfl)) (hJ.vals 32 _ rfl (hp 32 (by kernel_rfl)))
                  have t154 := hf.in (i := 28) (d := 154) (by kernel_rfl) (hp 28 (by kernel_rfl)) (hJ.vals 28 _ rfl (hp 28 (by kernel_rfl)))
                  obtain ⟨c0, c1, c2⟩ := HCP.out wX hJ.below
                  have q0 := HQI.out
                  rw [if_pos (wanted_of rfl rfl t154)]
                  go_simp
                  exact hK _ _ (hJ.val HOK 33 _ (by kernel_rfl) rfl (Below.refl _ _))
                case o24_34 =>
                  intro LX V aX wX K hl hp hcl hf hJ hK
                  have t155 := hf.in (i := 29) (d := 155) (by kernel_rfl) (hp 29 (by kernel_rfl)) (hJ.vals 29 _ rfl (hp 29 (by kernel_rfl)))
                  have t159 := hf.in (i := 33) (d := 159) (by kernel_rfl) (hp 33 (by kernel_rfl)) (hJ.vals 33 _ rfl (hp 33 (by kernel_rfl)))
                  have t154 := hf.in (i := 28) (d := 154) (by kernel_rfl) (hp 28 (by kernel_rfl)) (hJ.vals 28 _ rfl (hp 28 (by kernel_rfl)))
                  rw [if_pos (wanted_of rfl rfl t154)]
                  go_simp
                  refine (HIS.out _ hJ.below).mono ?_
                  rintro e wA ⟨rfl, hbA⟩
                  exact hK _ _ (hJ.val HOK 34 _ (by kernel_rfl) rfl (hbA))
                case o24_35 =>
                  intro LX V aX wX K hl hp hcl hf hJ hK
                  have t8 : aX.tmps[8]? = some (.pointer (some ⟨g, 0, none⟩)) := hf.old (by kernel_rfl) rfl
                  have t154 := hf.in (i := 28) (d := 154) (by kernel_rfl) (hp 28 (by kernel_rfl)) (hJ.vals 28 _ rfl (hp 28 (by kernel_rfl)))
                  rw [if_pos (wanted_of rfl rfl t154)]
                  go_simp
                  exact hK _ _ (hJ.val HOK 35 _ (by kernel_rfl) rfl (Below.refl _ _))
                case o24_36 =>
                  intro LX V aX wX K hl hp hcl hf hJ hK
                  have t1 : aX.tmps[1]? = some (.slice (some ⟨bp, op, none⟩) np cp) := hf.old (by kernel_rfl) rfl
                  have t154 := hf.in (i := 28) (d := 154) (by kernel_rfl) (hp 28 (by kernel_rfl)) (hJ.vals 28 _ rfl (hp 28 (by kernel_rfl)))
                  rw [if_pos (wanted_of rfl rfl t154)]
                  go_simp
                  exact hK _ _ (hJ.val HOK 36 _ (by kernel_rfl) rfl (Below.refl _ _))
                case o24_37 =>
                  intro LX V aX wX K hl hp hcl hf hJ hK
                  have t17 : aX.tmps[17]? = some (.int .i64 (i : Int)) := hf.old (by kernel_rfl) rfl
                  have t154 := hf.in (i := 28) (d := 154) (by kernel_rfl) (hp 28 (by kernel_rfl)) (hJ.vals 28 _ rfl (hp 28 (by kernel_rfl)))
                  rw [if_pos (wanted_of rfl rfl t154)]
                  go_simp
                  exact hK _ _ (hJ.val HOK 37 _ (by kernel_rfl) rfl (Below.refl _ _))
                case o24_38 =>
                  intro LX V aX wX K hl hp hcl hf hJ hK
                  have t162 := hf.in (i := 36) (d := 162) (by kernel_rfl) (hp 36 (by kernel_rfl)) (hJ.vals 36 _ rfl (hp 36 (by kernel_rfl)))
                  have t163 := hf.in (i := 37) (d := 163) (by kernel_rfl) (hp 37 (by kernel_rfl)) (hJ.vals 37 _ rfl (hp 37 (by kernel_rfl)))
                  have t154 := hf.in (i := 28) (d := 154) (by kernel_rfl) (hp 28 (by kernel_rfl)) (hJ.vals 28 _ rfl (hp 28 (by kernel_rfl)))
                  obtain ⟨c0, c1, c2⟩ := HCP.out wX hJ.below
                  have q0 := HQI.out
                  rw [if_pos (wanted_of rfl rfl t154)]
                  go_simp
                  exact hK _ _ (hJ.val HOK 38 _ (by kernel_rfl) rfl (Below.refl _ _))
                case o24_39 =>
                  intro LX V aX wX K hl hp hcl hf hJ hK
                  have t164 := hf.in (i := 38) (d := 164) (by kernel_rfl) (hp 38 (by kernel_rfl)) (hJ.vals 38 _ rfl (hp 38 (by kernel_rfl)))
                  have t154 := hf.in (i := 28) (d := 154) (by kernel_rfl) (hp 28 (by kernel_rfl)) (hJ.vals 28 _ rfl (hp 28 (by kernel_rfl)))
                  obtain ⟨c0, c1, c2⟩ := HCP.out wX hJ.below
                  have q0 := HQI.out
                  rw [if_pos (wanted_of rfl rfl t154)]
                  go_simp
                  exact hK _ _ (hJ.val HOK 39 _ (by kernel_rfl) rfl (Below.refl _ _))
                case o24_40 =>
                  intro LX V aX wX K hl hp hcl hf hJ hK
                  have t161 := hf.in (i := 35) (d := 161) (by kernel_rfl) (hp 35 (by kernel_rfl)) (hJ.vals 35 _ rfl (hp 35 (by kernel_rfl)))
                  have t165 := hf.in (i := 39) (d := 165) (by kernel_rfl) (hp 39 (by kernel_rfl)) (hJ.vals 39 _ rfl (hp 39 (by kernel_rfl)))
                  have t154 := hf.in (i := 28) (d := 154) (by kernel_rfl) (hp 28 (by kernel_rfl)) (hJ.vals 28 _ rfl (hp 28 (by kernel_rfl)))
                  rw [if_pos (wanted_of rfl rfl t154)]
                  go_simp
                  refine (HCR.out _ hJ.below).mono ?_
                  rintro e wA ⟨rfl, hbA⟩
                  exact hK _ _ (hJ.val HOK 40 _ (by kernel_rfl) rfl (hbA))
                case o24_41 =>
                  intro LX V aX wX K hl hp hcl hf hJ hK
                  have t166 := hf.in (i := 40) (d := 166) (by kernel_rfl) (hp 40 (by kernel_rfl)) (hJ.vals 40 _ rfl (hp 40 (by kernel_rfl)))
                  have t154 := hf.in (i := 28) (d := 154) (by kernel_rfl) (hp 28 (by kernel_rfl)) (hJ.vals 28 _ rfl (hp 28 (by kernel_rfl)))
                  obtain ⟨hr1, hr2, hr3⟩ := HCN.out
                  rw [if_pos (wanted_of rfl rfl t154)]
                  go_simp
                  exact hK _ _ (hJ.val HOK 41 _ (by kernel_rfl) rfl (Below.refl _ _))
                case o24_42 =>
                  intro LX V aX wX K hl hp hcl hf hJ hK
                  have t167 := hf.in (i := 41) (d := 167) (by kernel_rfl) (hp 41 (by kernel_rfl)) (hJ.vals 41 _ rfl (hp 41 (by kernel_rfl)))
                  have t154 := hf.in (i := 28) (d := 154) (by kernel_rfl) (hp 28 (by kernel_rfl)) (hJ.vals 28 _ rfl (hp 28 (by kernel_rfl)))
                  have hr3 := HCE3.out
                  rw [if_pos (wanted_of rfl rfl t154)]
                  go_simp
                  exact hK _ _ (hJ.val HOK 42 _ (by kernel_rfl) rfl (Below.refl _ _))
                case o24_43 =>
                  intro LX V aX wX K hl hp hcl hf hJ hK
                  have t160 := hf.in (i := 34) (d := 160) (by kernel_rfl) (hp 34 (by kernel_rfl)) (hJ.vals 34 _ rfl (hp 34 (by kernel_rfl)))
                  have t168 := hf.in (i := 42) (d := 168) (by kernel_rfl) (hp 42 (by kernel_rfl)) (hJ.vals 42 _ rfl (hp 42 (by kernel_rfl)))
                  have t154 := hf.in (i := 28) (d := 154) (by kernel_rfl) (hp 28 (by kernel_rfl)) (hJ.vals 28 _ rfl (hp 28 (by kernel_rfl)))
                  have ha := HAA.out
                  rw [if_pos (wanted_of rfl rfl t154)]
                  go_simp
                  exact hK _ _ (hJ.val HOK 43 _ (by kernel_rfl) rfl (Below.refl _ _))
                case o24_44 =>
                  intro LX V aX wX K hl hp hcl hf hJ hK
                  have t154 := hf.in (i := 28) (d := 154) (by kernel_rfl) (hp 28 (by kernel_rfl)) (hJ.vals 28 _ rfl (hp 28 (by kernel_rfl)))
                  have t169 := hf.in (i := 43) (d := 169) (by kernel_rfl) (hp 43 (by kernel_rfl)) (hJ.vals 43 _ rfl (hp 43 (by kernel_rfl)))
                  rw [if_pos (by rfl)]
                  go_simp
                  exact hK _ _ (hJ.val HOK 44 _ (by kernel_rfl) rfl (Below.refl _ _))
              intro V wk hJ
              have hv := hJ.vals 44 _ rfl (by kernel_rfl)
              have hbk := hJ.below
              simp only [puts, Act.put, List.setIfInBounds_toArray, List.set_cons_zero, List.set_cons_succ]
              rw [hv]
              clear hJ HOK hv
              have HBK := Lib.hid (hbi.out.trans (hbk.mono hbi.out.size))
              clear hbk
              go_wp2_with fail
              go_roundw
              case rel => exact ⟨i + 1, by omega, by go_num, HBK⟩
              case measure => simp [intOf]; omega
            · have hip2 : np = i := by omega
              subst hip2
              have hip5 : ¬ (np : Int) < (np : Int) := by omega
              go_wp2_with fail
              go_ret
              exact ⟨rfl, H0.out.trans ((HB3.out.trans ((HB9.out.trans (hbi.out.mono HB9.out.size)).mono HB3.out.size)).mono H0.out.size)⟩
    · have he := hno hz
      subst he
      rw [← hfx] at hz ⊢
      obtain ⟨f, fa⟩ := fx
      unfold faultV
      dsimp only at hz ⊢
      have hzz : (f == 0) = false := by simpa using hz
      have hzz2 : (f != 0) = true := by simpa using hz
      have HB4 := Lib.hid (H0.out.trans ((HB3'.out.alloc HB3'.out.size (.cells #[.int .i64 f, .int .i64 fa] 30)).mono H0.out.size))
      clear hok hno hb3 c0 hfx hz
      go_wp2_with fail
      go_ret
      exact ⟨rfl, HB4.out⟩
theorem SlabSame_z {w : World} (g : Rg) (hg : ∃ R, IsRings w g.a g.n g.c R ∧ Kept R) {ap : Option Addr} {np cp : Nat} {P : List Pt} (hp : IsPts w ap np cp P) (by_ : Int) :
    Calls Try.prog 7 #[g.val, .slice ap np cp, .int .i64 by_] w fun e w' => e = .returned (.bool true) ∧ Below w.heap.size w w' := by
  obtain ⟨R, hr, hk⟩ := hg
  exact SlabSame_any _ _ _ R _ _ _ P by_ w hr hk hp
end Go.Proofs.Ytdikecfplohpeaa
