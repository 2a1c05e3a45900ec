/- ref07.In, ref07.Meet, ref12.At, ref12.Over (printed by mkrask12.py) -/
import Derived.Test.YtlmmejdcjhbppaaMBAll
set_option linter.unusedSimpArgs false
set_option linter.unusedVariables false
namespace Go.Proofs.Ytlmmejdcjhbppaa
open Go.RowKit Go.Geo
attribute [local go_sem] Oper.semAt_some
set_option maxRecDepth 100000 in
set_option maxHeartbeats 1000000 in
theorem rIn_any (p lo hi : Pt) (w : World) :
    Calls Try.prog 32 #[ptV p, boxV lo hi] w fun e w' => e = .returned (.bool (boxIn p lo hi)) ∧ Grew w w' := by
  obtain ⟨px, py⟩ := p
  obtain ⟨lx, ly⟩ := lo
  obtain ⟨hx, hy⟩ := hi
  unfold ptV boxV boxIn
  dsimp only
  go_enter Try.func32, Try.ntmps32
  go_wp2
  all_goals (go_ret; refine ⟨ret_bool ?_, ((Grew.refl _).alloc _).alloc _⟩; first | (simp only [Bool.and_eq_true, decide_eq_true_eq, true_iff, Bool.false_eq_true, false_iff]; omega) | (simp only [Bool.and_eq_true, decide_eq_true_eq]; omega))
set_option maxRecDepth 100000 in
set_option maxHeartbeats 1000000 in
theorem rMeet_any (lo hi lo2 hi2 : Pt) (w : World) :
    Calls Try.prog 35 #[boxV lo hi, boxV lo2 hi2] w fun e w' => e = .returned (.bool (boxMeet lo2 hi2 lo hi)) ∧ Grew w w' := by
  obtain ⟨lx, ly⟩ := lo
  obtain ⟨hx, hy⟩ := hi
  obtain ⟨mx, my⟩ := lo2
  obtain ⟨kx, ky⟩ := hi2
  unfold boxV boxMeet
  dsimp only
  go_enter Try.func35, Try.ntmps35
  go_wp2
  all_goals (go_ret; refine ⟨ret_bool ?_, ((Grew.refl _).alloc _).alloc _⟩; first | (simp only [Bool.and_eq_true, decide_eq_true_eq, true_iff, Bool.false_eq_true, false_iff]; omega) | (simp only [Bool.and_eq_true, decide_eq_true_eq]; omega))
set_option maxRecDepth 100000 in
set_option maxHeartbeats 4000000 in
theorem RAt_any (ao : Option Addr) (n cap : Nat) (L : List Bx) (p : Pt) (w : World) (h : IsX w ao n cap L) (hn5 : n ≤ 100000) :
    Calls Try.prog 15 #[.slice ao n cap, ptV p] w (AskR (atQ p) L w) := by
  have hn := h.1
  have hnc := h.2.1
  have hcm := h.2.2.1
  unfold maxLen at hcm
  obtain ⟨W0, hW0⟩ : ∃ W, W = w.alloc (.cells #[.int .i64 p.x, .int .i64 p.y] 31) := ⟨_, rfl⟩
  have hb0 : Below w.heap.size w W0 := by rw [hW0]; exact (Below.refl _ _).alloc (Nat.le_refl _) _
  have k0 : W0.heap[w.heap.size]? = some (.cells #[.int .i64 p.x, .int .i64 p.y] 31 (0, 0)) := by rw [hW0]; exact alloc_new _ _
  have HPC : Hid (∀ wX, Below W0.heap.size W0 wX → wX.cell? ⟨w.heap.size, 0, none⟩ = some (.int .i64 p.x) ∧ wX.cell? ⟨w.heap.size, 1, none⟩ = some (.int .i64 p.y)) := Lib.hid (fun wX hX => by
    have q0 := (hX.block _ (heap_lt2 k0)).trans k0
    exact ⟨cell_of_row _ _ _ _ _ _ q0, cell_of_row _ _ _ _ _ _ q0⟩)
  have HI := Lib.hid (h.later hb0 (Nat.le_refl _))
  have HB0 := Lib.hid hb0
  have HN := Lib.hid hn
  clear hb0 k0 h hn
  unfold ptV
  go_enter Try.func15, Try.ntmps15
  go_wp2_with fail
  rw [← hW0]
  clear hW0
  go_loopw [5, 6] (fun ov iv wr => ∃ i : Nat, i ≤ n ∧ iv = .int .i64 i ∧ Hid (OwnI wr W0.heap.size ov (askP (atQ p) L i) ∧ Below W0.heap.size W0 wr)) (fun _ iv _ => n - (intOf iv).toNat)
  case atStart => exact ⟨0, by omega, rfl, Lib.hid ⟨OwnI.nil _ _, Below.refl _ _⟩⟩
  case round =>
    rename_i ov iv
    obtain ⟨i, hi, rfl, hst⟩ := hrel
    have HST := hst
    clear hst
    by_cases hlt : i < n
    · have hi5 : (i : Int) < (n : Int) := by omega
      have hwi : IntKind.i64.wrap ((i : Int) + 1) = (i : Int) + 1 := IntWalk.i64_in _ (by omega)
      obtain ⟨bb, off, hao, hat⟩ := (HI.out).2.2.2.2 (by omega)
      subst hao
      obtain ⟨b, hb⟩ : ∃ b, b = L.getD i bx0 := ⟨_, rfl⟩
      obtain ⟨r, hr⟩ : ∃ r, r = boxIn p b.1 b.2 := ⟨_, rfl⟩
      have HCELLS : Hid (∀ wX, Below wr.heap.size wr wX → (wX.cell? ⟨w.heap.size, 0, none⟩ = some (.int .i64 p.x) ∧ wX.cell? ⟨w.heap.size, 1, none⟩ = some (.int .i64 p.y)) ∧ wX.cell? ⟨bb, off + i * 4, none⟩ = some (.int .i64 b.1.x) ∧ wX.cell? ⟨bb, off + i * 4 + 1, none⟩ = some (.int .i64 b.1.y) ∧ wX.cell? ⟨bb, off + i * 4 + 2, none⟩ = some (.int .i64 b.2.x) ∧ wX.cell? ⟨bb, off + i * 4 + 3, none⟩ = some (.int .i64 b.2.y)) := Lib.hid (fun wX hX => by
        have hb5 := HST.out.2.trans (hX.mono HST.out.2.size)
        have hq := (HI.out.later hb5 (Nat.le_refl _)).at (i := i) (by omega)
        obtain ⟨b2, off2, e, d0, d1, d2, d3⟩ := hq
        cases e
        rw [← hb] at d0 d1 d2 d3
        exact ⟨HPC.out wX hb5, d0, d1, d2, d3⟩)
      have HIN : Hid (∀ wX, Below wr.heap.size wr wX → Calls Try.prog 32 #[.agg #[.int .i64 p.x, .int .i64 p.y], .agg #[.int .i64 b.1.x, .int .i64 b.1.y, .int .i64 b.2.x, .int .i64 b.2.y]] wX fun e w' => e = .returned (.bool r) ∧ Grew wX w') := Lib.hid (fun wX hX => by
        have := rIn_any p b.1 b.2 wX
        unfold ptV boxV at this
        rw [← hr] at this
        exact this)
      have HIX := Lib.hid (And.intro hi5 (show (0 : Int) ≤ (i : Int) by omega))
      have HR := Lib.hid (show (atQ p) (L.getD i bx0) = r by unfold atQ; rw [← hb, hr])
      clear hat hr hb
      go_wp2_with fail
      have HOK : ∀ f ∈ ([] : List Fct), FctOk f := by
        intro f hf; cases hf
      refine wp_region_J (s := [(13, 0), (14, 1), (15, 2), (16, 3), (17, 4), (18, 5)]) (by kernel_rfl) (GrowJ wr (fun iX => match iX with | 0 => some (.agg #[.int .i64 p.x, .int .i64 p.y]) | 1 => some (.slice (some ⟨bb, off, none⟩) n cap) | 2 => some (.int .i64 (i : Int)) | 3 => some (.pointer (some ⟨bb, off + i * 4, none⟩)) | 4 => some (.agg #[.int .i64 b.1.x, .int .i64 b.1.y, .int .i64 b.2.x, .int .i64 b.2.y]) | 5 => some (.bool r) | _ => none) []) (by kernel_rfl) (by kernel_rfl) (by kernel_rfl) (by kernel_rfl) (fun _ => undef) ?start5 ?step5 ?done5
      case start5 => exact GrowJ.start ((Below.refl _ _).drew)
      case step5 =>
        refine ⟨?o5_0, ?o5_1, ?o5_2, ?o5_3, ?o5_4, ?o5_5, trivial⟩
        case o5_0 =>
          intro LX V aX wX K hl hp hcl hf hJ hK
          have t3 : aX.tmps[3]? = some (.pointer (some ⟨w.heap.size, 0, none⟩)) := hf.old (by kernel_rfl) rfl
          obtain ⟨cp, d0, d1, d2, d3⟩ := HCELLS.out wX hJ.below
          obtain ⟨c0, c1⟩ := cp
          rw [if_pos (by rfl)]
          go_simp
          exact hK _ _ (hJ.val HOK 0 _ (by kernel_rfl) rfl (Below.refl _ _))
        case o5_1 =>
          intro LX V aX wX K hl hp hcl hf hJ hK
          have t0 : aX.tmps[0]? = some (.slice (some ⟨bb, off, none⟩) n cap) := hf.old (by kernel_rfl) rfl
          rw [if_pos (by rfl)]
          go_simp
          exact hK _ _ (hJ.val HOK 1 _ (by kernel_rfl) rfl (Below.refl _ _))
        case o5_2 =>
          intro LX V aX wX K hl hp hcl hf hJ hK
          have t6 : aX.tmps[6]? = some (.int .i64 (i : Int)) := hf.old (by kernel_rfl) rfl
          rw [if_pos (by rfl)]
          go_simp
          exact hK _ _ (hJ.val HOK 2 _ (by kernel_rfl) rfl (Below.refl _ _))
        case o5_3 =>
          intro LX V aX wX K hl hp hcl hf hJ hK
          have t14 := hf.in (i := 1) (d := 14) (by kernel_rfl) (hp 1 (by kernel_rfl)) (hJ.vals 1 _ rfl (hp 1 (by kernel_rfl)))
          have t15 := hf.in (i := 2) (d := 15) (by kernel_rfl) (hp 2 (by kernel_rfl)) (hJ.vals 2 _ rfl (hp 2 (by kernel_rfl)))
          have hix := HIX.out
          rw [if_pos (by rfl)]
          go_simp
          exact hK _ _ (hJ.val HOK 3 _ (by kernel_rfl) rfl (Below.refl _ _))
        case o5_4 =>
          intro LX V aX wX K hl hp hcl hf hJ hK
          have t16 := hf.in (i := 3) (d := 16) (by kernel_rfl) (hp 3 (by kernel_rfl)) (hJ.vals 3 _ rfl (hp 3 (by kernel_rfl)))
          obtain ⟨cp, d0, d1, d2, d3⟩ := HCELLS.out wX hJ.below
          rw [if_pos (by rfl)]
          go_simp
          exact hK _ _ (hJ.val HOK 4 _ (by kernel_rfl) rfl (Below.refl _ _))
        case o5_5 =>
          intro LX V aX wX K hl hp hcl hf hJ hK
          have t13 := hf.in (i := 0) (d := 13) (by kernel_rfl) (hp 0 (by kernel_rfl)) (hJ.vals 0 _ rfl (hp 0 (by kernel_rfl)))
          have t17 := hf.in (i := 4) (d := 17) (by kernel_rfl) (hp 4 (by kernel_rfl)) (hJ.vals 4 _ rfl (hp 4 (by kernel_rfl)))
          rw [if_pos (by rfl)]
          go_simp
          refine (HIN.out _ hJ.below).mono ?_
          rintro e wA ⟨rfl, hgA⟩
          exact hK _ _ (hJ.val HOK 5 _ (by kernel_rfl) rfl (hgA.1))
      intro V wZ hJ
      have hv := hJ.vals 5 _ rfl (by kernel_rfl)
      have HBZ := Lib.hid hJ.below
      simp only [puts, Act.put, List.setIfInBounds_toArray, List.set_cons_zero, List.set_cons_succ]
      rw [hv]
      clear hJ HOK hv
      have HBZ2 := Lib.hid (HST.out.2.trans (HBZ.out.mono HST.out.2.size))
      have HOWZ := Lib.hid (HST.out.1.later HBZ.out)
      cases r
      · go_wp2_with fail
        go_roundw
        case rel => exact ⟨i + 1, by omega, by go_num, Lib.hid ⟨by rw [askP_no HR.out]; exact HOWZ.out, HBZ2.out⟩⟩
        case measure => simp [intOf]; omega
      · have hkl : (askP (atQ p) L i).length + 1 ≤ 1000000000 := by have := askP_le (atQ p) L i; omega
        have HKL := Lib.hid hkl
        have hown := HOWZ.out.later ((Below.refl _ _).alloc (Nat.le_refl _) (.cells #[.int .i64 (i : Int)] 3))
        have HOWN := Lib.hid hown
        have HSZ := Lib.hid HBZ2.out.size
        clear hkl hown
        go_wp2_with (at_builtin; refine wpList_append_ints rfl _ _ rfl W0.heap.size _ (askP (atQ p) L i) rfl HOWN.out _ _ _ [(i : Int)] rfl (one_ints wZ (i : Int)) HKL.out (by have := HSZ.out; simp; omega) ?_
                     intro v7 w7 hown7 hg7
                     have hb7 : Below W0.heap.size W0 w7 := (HBZ2.out.alloc HSZ.out (.cells #[.int .i64 (i : Int)] 3)).grown hg7 (by have := HSZ.out; simp; omega) (fun b hb => (HOWN.out.lt b hb).1)
                     have H7 := Lib.hid (And.intro hown7 hb7)
                     clear hown7 hg7 hb7)
        go_roundw
        case rel => exact ⟨i + 1, by omega, by go_num, Lib.hid ⟨by rw [askP_yes HR.out]; exact H7.out.1, H7.out.2⟩⟩
        case measure => simp [intOf]; omega
    · have hin2 : i = n := by omega
      subst hin2
      go_wp2_with fail
      go_ret
      have hsz := HB0.out.size
      refine ⟨_, rfl, ?_, HB0.out.trans (HST.out.2.mono hsz)⟩
      have := HST.out.1.base hsz
      rw [← HN.out, askP_all] at this
      exact this
set_option maxRecDepth 100000 in
set_option maxHeartbeats 4000000 in
theorem ROver_any (ao : Option Addr) (n cap : Nat) (L : List Bx) (x : Bx) (w : World) (h : IsX w ao n cap L) (hn5 : n ≤ 100000) :
    Calls Try.prog 17 #[.slice ao n cap, boxV x.1 x.2] w (AskR (overQ x) L w) := by
  have hn := h.1
  have hnc := h.2.1
  have hcm := h.2.2.1
  unfold maxLen at hcm
  obtain ⟨W0, hW0⟩ : ∃ W, W = w.alloc (.cells #[.int .i64 x.1.x, .int .i64 x.1.y, .int .i64 x.2.x, .int .i64 x.2.y] 33) := ⟨_, rfl⟩
  have hb0 : Below w.heap.size w W0 := by rw [hW0]; exact (Below.refl _ _).alloc (Nat.le_refl _) _
  have k0 : W0.heap[w.heap.size]? = some (.cells #[.int .i64 x.1.x, .int .i64 x.1.y, .int .i64 x.2.x, .int .i64 x.2.y] 33 (0, 0)) := by rw [hW0]; exact alloc_new _ _
  have HPC : Hid (∀ wX, Below W0.heap.size W0 wX → wX.cell? ⟨w.heap.size, 0, none⟩ = some (.int .i64 x.1.x) ∧ wX.cell? ⟨w.heap.size, 1, none⟩ = some (.int .i64 x.1.y) ∧ wX.cell? ⟨w.heap.size, 2, none⟩ = some (.int .i64 x.2.x) ∧ wX.cell? ⟨w.heap.size, 3, none⟩ = some (.int .i64 x.2.y)) := Lib.hid (fun wX hX => by
    have q0 := (hX.block _ (heap_lt2 k0)).trans k0
    exact ⟨cell_of_row _ _ _ _ _ _ q0, cell_of_row _ _ _ _ _ _ q0, cell_of_row _ _ _ _ _ _ q0, cell_of_row _ _ _ _ _ _ q0⟩)
  have HI := Lib.hid (h.later hb0 (Nat.le_refl _))
  have HB0 := Lib.hid hb0
  have HN := Lib.hid hn
  clear hb0 k0 h hn
  unfold boxV
  go_enter Try.func17, Try.ntmps17
  go_wp2_with fail
  rw [← hW0]
  clear hW0
  go_loopw [5, 6] (fun ov iv wr => ∃ i : Nat, i ≤ n ∧ iv = .int .i64 i ∧ Hid (OwnI wr W0.heap.size ov (askP (overQ x) L i) ∧ Below W0.heap.size W0 wr)) (fun _ iv _ => n - (intOf iv).toNat)
  case atStart => exact ⟨0, by omega, rfl, Lib.hid ⟨OwnI.nil _ _, Below.refl _ _⟩⟩
  case round =>
    rename_i ov iv
    obtain ⟨i, hi, rfl, hst⟩ := hrel
    have HST := hst
    clear hst
    by_cases hlt : i < n
    · have hi5 : (i : Int) < (n : Int) := by omega
      have hwi : IntKind.i64.wrap ((i : Int) + 1) = (i : Int) + 1 := IntWalk.i64_in _ (by omega)
      obtain ⟨bb, off, hao, hat⟩ := (HI.out).2.2.2.2 (by omega)
      subst hao
      obtain ⟨b, hb⟩ : ∃ b, b = L.getD i bx0 := ⟨_, rfl⟩
      obtain ⟨r, hr⟩ : ∃ r, r = boxMeet x.1 x.2 b.1 b.2 := ⟨_, rfl⟩
      have HCELLS : Hid (∀ wX, Below wr.heap.size wr wX → (wX.cell? ⟨w.heap.size, 0, none⟩ = some (.int .i64 x.1.x) ∧ wX.cell? ⟨w.heap.size, 1, none⟩ = some (.int .i64 x.1.y) ∧ wX.cell? ⟨w.heap.size, 2, none⟩ = some (.int .i64 x.2.x) ∧ wX.cell? ⟨w.heap.size, 3, none⟩ = some (.int .i64 x.2.y)) ∧ wX.cell? ⟨bb, off + i * 4, none⟩ = some (.int .i64 b.1.x) ∧ wX.cell? ⟨bb, off + i * 4 + 1, none⟩ = some (.int .i64 b.1.y) ∧ wX.cell? ⟨bb, off + i * 4 + 2, none⟩ = some (.int .i64 b.2.x) ∧ wX.cell? ⟨bb, off + i * 4 + 3, none⟩ = some (.int .i64 b.2.y)) := Lib.hid (fun wX hX => by
        have hb5 := HST.out.2.trans (hX.mono HST.out.2.size)
        have hq := (HI.out.later hb5 (Nat.le_refl _)).at (i := i) (by omega)
        obtain ⟨b2, off2, e, d0, d1, d2, d3⟩ := hq
        cases e
        rw [← hb] at d0 d1 d2 d3
        exact ⟨HPC.out wX hb5, d0, d1, d2, d3⟩)
      have HIN : Hid (∀ wX, Below wr.heap.size wr wX → Calls Try.prog 35 #[.agg #[.int .i64 b.1.x, .int .i64 b.1.y, .int .i64 b.2.x, .int .i64 b.2.y], .agg #[.int .i64 x.1.x, .int .i64 x.1.y, .int .i64 x.2.x, .int .i64 x.2.y]] wX fun e w' => e = .returned (.bool r) ∧ Grew wX w') := Lib.hid (fun wX hX => by
        have := rMeet_any b.1 b.2 x.1 x.2 wX
        unfold boxV at this
        rw [← hr] at this
        exact this)
      have HIX := Lib.hid (And.intro hi5 (show (0 : Int) ≤ (i : Int) by omega))
      have HR := Lib.hid (show (overQ x) (L.getD i bx0) = r by unfold overQ; rw [← hb, hr])
      clear hat hr hb
      go_wp2_with fail
      have HOK : ∀ f ∈ ([] : List Fct), FctOk f := by
        intro f hf; cases hf
      refine wp_region_J (s := [(13, 0), (14, 1), (15, 2), (16, 3), (17, 4), (18, 5)]) (by kernel_rfl) (GrowJ wr (fun iX => match iX with | 0 => some (.slice (some ⟨bb, off, none⟩) n cap) | 1 => some (.int .i64 (i : Int)) | 2 => some (.pointer (some ⟨bb, off + i * 4, none⟩)) | 3 => some (.agg #[.int .i64 b.1.x, .int .i64 b.1.y, .int .i64 b.2.x, .int .i64 b.2.y]) | 4 => some (.agg #[.int .i64 x.1.x, .int .i64 x.1.y, .int .i64 x.2.x, .int .i64 x.2.y]) | 5 => some (.bool r) | _ => none) []) (by kernel_rfl) (by kernel_rfl) (by kernel_rfl) (by kernel_rfl) (fun _ => undef) ?start5 ?step5 ?done5
      case start5 => exact GrowJ.start ((Below.refl _ _).drew)
      case step5 =>
        refine ⟨?o5_0, ?o5_1, ?o5_2, ?o5_3, ?o5_4, ?o5_5, trivial⟩
        case o5_0 =>
          intro LX V aX wX K hl hp hcl hf hJ hK
          have t0 : aX.tmps[0]? = some (.slice (some ⟨bb, off, none⟩) n cap) := hf.old (by kernel_rfl) rfl
          rw [if_pos (by rfl)]
          go_simp
          exact hK _ _ (hJ.val HOK 0 _ (by kernel_rfl) rfl (Below.refl _ _))
        case o5_1 =>
          intro LX V aX wX K hl hp hcl hf hJ hK
          have t6 : aX.tmps[6]? = some (.int .i64 (i : Int)) := hf.old (by kernel_rfl) rfl
          rw [if_pos (by rfl)]
          go_simp
          exact hK _ _ (hJ.val HOK 1 _ (by kernel_rfl) rfl (Below.refl _ _))
        case o5_2 =>
          intro LX V aX wX K hl hp hcl hf hJ hK
          have t13 := hf.in (i := 0) (d := 13) (by kernel_rfl) (hp 0 (by kernel_rfl)) (hJ.vals 0 _ rfl (hp 0 (by kernel_rfl)))
          have t14 := hf.in (i := 1) (d := 14) (by kernel_rfl) (hp 1 (by kernel_rfl)) (hJ.vals 1 _ rfl (hp 1 (by kernel_rfl)))
          have hix := HIX.out
          rw [if_pos (by rfl)]
          go_simp
          exact hK _ _ (hJ.val HOK 2 _ (by kernel_rfl) rfl (Below.refl _ _))
        case o5_3 =>
          intro LX V aX wX K hl hp hcl hf hJ hK
          have t15 := hf.in (i := 2) (d := 15) (by kernel_rfl) (hp 2 (by kernel_rfl)) (hJ.vals 2 _ rfl (hp 2 (by kernel_rfl)))
          obtain ⟨cp, d0, d1, d2, d3⟩ := HCELLS.out wX hJ.below
          rw [if_pos (by rfl)]
          go_simp
          exact hK _ _ (hJ.val HOK 3 _ (by kernel_rfl) rfl (Below.refl _ _))
        case o5_4 =>
          intro LX V aX wX K hl hp hcl hf hJ hK
          have t3 : aX.tmps[3]? = some (.pointer (some ⟨w.heap.size, 0, none⟩)) := hf.old (by kernel_rfl) rfl
          obtain ⟨cp, d0, d1, d2, d3⟩ := HCELLS.out wX hJ.below
          obtain ⟨c0, c1, c2, c3⟩ := cp
          rw [if_pos (by rfl)]
          go_simp
          exact hK _ _ (hJ.val HOK 4 _ (by kernel_rfl) rfl (Below.refl _ _))
        case o5_5 =>
          intro LX V aX wX K hl hp hcl hf hJ hK
          have t16 := hf.in (i := 3) (d := 16) (by kernel_rfl) (hp 3 (by kernel_rfl)) (hJ.vals 3 _ rfl (hp 3 (by kernel_rfl)))
          have t17 := hf.in (i := 4) (d := 17) (by kernel_rfl) (hp 4 (by kernel_rfl)) (hJ.vals 4 _ rfl (hp 4 (by kernel_rfl)))
          rw [if_pos (by rfl)]
          go_simp
          refine (HIN.out _ hJ.below).mono ?_
          rintro e wA ⟨rfl, hgA⟩
          exact hK _ _ (hJ.val HOK 5 _ (by kernel_rfl) rfl (hgA.1))
      intro V wZ hJ
      have hv := hJ.vals 5 _ rfl (by kernel_rfl)
      have HBZ := Lib.hid hJ.below
      simp only [puts, Act.put, List.setIfInBounds_toArray, List.set_cons_zero, List.set_cons_succ]
      rw [hv]
      clear hJ HOK hv
      have HBZ2 := Lib.hid (HST.out.2.trans (HBZ.out.mono HST.out.2.size))
      have HOWZ := Lib.hid (HST.out.1.later HBZ.out)
      cases r
      · go_wp2_with fail
        go_roundw
        case rel => exact ⟨i + 1, by omega, by go_num, Lib.hid ⟨by rw [askP_no HR.out]; exact HOWZ.out, HBZ2.out⟩⟩
        case measure => simp [intOf]; omega
      · have hkl : (askP (overQ x) L i).length + 1 ≤ 1000000000 := by have := askP_le (overQ x) L i; omega
        have HKL := Lib.hid hkl
        have hown := HOWZ.out.later ((Below.refl _ _).alloc (Nat.le_refl _) (.cells #[.int .i64 (i : Int)] 3))
        have HOWN := Lib.hid hown
        have HSZ := Lib.hid HBZ2.out.size
        clear hkl hown
        go_wp2_with (at_builtin; refine wpList_append_ints rfl _ _ rfl W0.heap.size _ (askP (overQ x) L i) rfl HOWN.out _ _ _ [(i : Int)] rfl (one_ints wZ (i : Int)) HKL.out (by have := HSZ.out; simp; omega) ?_
                     intro v7 w7 hown7 hg7
                     have hb7 : Below W0.heap.size W0 w7 := (HBZ2.out.alloc HSZ.out (.cells #[.int .i64 (i : Int)] 3)).grown hg7 (by have := HSZ.out; simp; omega) (fun b hb => (HOWN.out.lt b hb).1)
                     have H7 := Lib.hid (And.intro hown7 hb7)
                     clear hown7 hg7 hb7)
        go_roundw
        case rel => exact ⟨i + 1, by omega, by go_num, Lib.hid ⟨by rw [askP_yes HR.out]; exact H7.out.1, H7.out.2⟩⟩
        case measure => simp [intOf]; omega
    · have hin2 : i = n := by omega
      subst hin2
      go_wp2_with fail
      go_ret
      have hsz := HB0.out.size
      refine ⟨_, rfl, ?_, HB0.out.trans (HST.out.2.mono hsz)⟩
      have := HST.out.1.base hsz
      rw [← HN.out, askP_all] at this
      exact this
end Go.Proofs.Ytlmmejdcjhbppaa
