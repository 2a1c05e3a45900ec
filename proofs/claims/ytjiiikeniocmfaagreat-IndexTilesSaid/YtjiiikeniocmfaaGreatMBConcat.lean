/- slices.Grow, slices.Concat of ints -/
import Derived.Test.YtjiiikeniocmfaaGreatMSInts
import Derived.Lib.AppendZerosOnto
set_option linter.unusedSimpArgs false
set_option linter.unusedVariables false
namespace Go.Proofs.YtjiiikeniocmfaaGreat
open Go.RowKit Go.Lib
attribute [local go_sem] Oper.semAt_some
/-- rows of ints in a slice. -/
def IsIRows (w : World) (ao : Option Addr) (n cap : Nat) (R : List (List Int)) : Prop :=
  R.length = n ∧ n ≤ cap ∧ cap ≤ maxLen ∧ ∀ k, k < n → ∃ b off x y z, ao = some ⟨b, off, none⟩ ∧ w.cell? ⟨b, off + k, none⟩ = some (.slice x y z) ∧ IsInts w x y z (R.getD k [])
theorem IsIRows.later {w w' : World} {B : Nat} {ao : Option Addr} {n cap : Nat} {R : List (List Int)} (h : IsIRows w ao n cap R) (hb : Below B w w') (hB : w.heap.size ≤ B) : IsIRows w' ao n cap R := by
  obtain ⟨h1, h2, h3, h4⟩ := h
  refine ⟨h1, h2, h3, fun k hk => ?_⟩
  obtain ⟨b, off, x, y, z, e, hc, hi⟩ := h4 k hk
  exact ⟨b, off, x, y, z, e, (hb.cell (p := ⟨b, off + k, none⟩) (Nat.lt_of_lt_of_le (block_lt_of_cell hc) hB)).trans hc, hi.later hb hB⟩
def sumI (R : List (List Int)) : Nat := (R.map List.length).sum
theorem take_moreI {R : List (List Int)} {k : Nat} (h : k < R.length) : R.take (k + 1) = R.take k ++ [R.getD k []] := by
  rw [List.take_succ_eq_append_getElem h, List.getD_eq_getElem?_getD, List.getElem?_eq_getElem h]; rfl
theorem sumI_take {g : List (List Int)} {k : Nat} (h : k < g.length) : sumI (g.take (k + 1)) = sumI (g.take k) + (g.getD k []).length := by
  rw [take_moreI h]; unfold sumI; simp
theorem sumI_split (g : List (List Int)) (k : Nat) : sumI (g.take k) + sumI (g.drop k) = sumI g := by
  conv => rhs; rw [← List.take_append_drop k g]
  unfold sumI
  rw [List.map_append, List.sum_append]
theorem sumI_take_le (g : List (List Int)) (k : Nat) : sumI (g.take k) ≤ sumI g := by have := sumI_split g k; omega
theorem sumI_get {g : List (List Int)} {k : Nat} (h : k < g.length) : (g.getD k []).length ≤ sumI g := by
  have h1 := sumI_take h
  have h2 := sumI_take_le g (k + 1)
  omega
theorem sumI_flatten : ∀ g : List (List Int), g.flatten.length = sumI g
  | [] => rfl
  | l :: g => by rw [List.flatten_cons, List.length_append, sumI_flatten g]; rfl
set_option maxRecDepth 100000 in
set_option maxHeartbeats 4000000 in
theorem Grow_ints (n : Nat) (w : World) (hn : n ≤ 1000000) :
    Calls Tryz.prog 156 #[.slice none 0 0, .int .i64 n] w fun e w' => ∃ v, e = .returned v ∧ OwnI w' w.heap.size v [] ∧ Below w.heap.size w w' := by
  have hn9 : (n : Int) ≤ 1000000 := by omega
  have hn0 : (0 : Int) ≤ (n : Int) := by omega
  by_cases h0 : n = 0
  · subst h0
    go_enter Tryz.func156, Tryz.ntmps156
    go_wp2
    go_ret
    exact ⟨_, rfl, OwnI.nil _ _, Below.refl _ _⟩
  · obtain ⟨i0, hi, hz0, hz1, hz2⟩ := info_parts' Tryz.infoIntS
    have hrz : ∀ ty, (Builtin.append_ #[22, 3] ty #[.slice none 0 0, .int .i64 (n : Int)]).run Tryz.prog w =
        .ok (.slice (some ⟨w.heap.size, 0, none⟩) n (grownCap w n 0 3)) (w.drew.alloc (.cells (([] : List Value).toArray ++ Builtin.zeroCells (Value.int .i64 0).cells n ++ Builtin.zeroCells (Value.int .i64 0).cells (grownCap w n 0 3 - n)) 3)) := fun ty => by
      have h := Lib.run_append_grow_zeros w 22 3 ty 3 i0 (.int .i64 0) .i64 .i64 Tryz.underlying22 Tryz.underlying3 hi hz0 none 0 0 [] (by rw [hz1]; exact run_firstCells_none w.drew 1 0 0 0) n (by omega) (by rw [hz1]; decide) (by omega) (by omega)
        (by rw [hz2]; omega) (by rw [hz2]; exact growslice_fits (by omega) (by omega))
      rw [Nat.zero_add] at h
      exact h
    have hGn : n ≤ grownCap w n 0 3 := grownCap_ge w _ _ _
    obtain ⟨G, hG⟩ : ∃ G, G = grownCap w n 0 3 := ⟨_, rfl⟩
    rw [← hG] at hrz hGn
    have hG63 : G ≤ 9223372036854775807 := by
      have := grownCap_le_maxLen w n 0 3 (by unfold maxLen; omega)
      rw [← hG] at this
      unfold maxLen at this
      omega
    have hnn : (0 : Int) < (n : Int) := by omega
    clear hG
    go_enter Tryz.func156, Tryz.ntmps156
    go_wp2_with (at_builtin; refine Lib.wpList_append_run _ rfl _ _ _ _ rfl _ _ rfl rfl _ _ (hrz _) ?_)
    go_ret
    refine ⟨_, rfl, ⟨rfl, .inr ⟨w.heap.size, G, _, rfl, Nat.le_refl _, alloc_new w.drew _, Nat.zero_le _, by unfold maxLen; omega, ?_, rfl⟩⟩, ((Below.refl _ _).drew).alloc (Nat.le_refl _) _⟩
    rw [Array.size_append, size_zeroCells, size_zeroCells]
    show n * 1 + (G - n) * 1 = G * 1
    omega
theorem flatten_take {R : List (List Int)} {k : Nat} (h : k < R.length) : (R.take (k + 1)).flatten = (R.take k).flatten ++ R.getD k [] := by
  rw [take_moreI h, List.flatten_append]
  simp
set_option maxRecDepth 100000 in
set_option maxHeartbeats 4000000 in
theorem Concat_ints (ao : Option Addr) (n cap : Nat) (R : List (List Int)) (w : World) (h : IsIRows w ao n cap R) (hs : sumI R ≤ 1000000) :
    Calls Tryz.prog 120 #[.slice ao n cap] w fun e w' => ∃ v, e = .returned v ∧ OwnI w' w.heap.size v R.flatten ∧ Below w.heap.size w w' := by
  have HI := Lib.hid h
  have HS := Lib.hid hs
  have hcm := h.2.2.1
  have hnc := h.2.1
  have HL := Lib.hid h.1
  unfold maxLen at hcm
  have HG := Lib.hid (Grow_ints (sumI R) w hs)
  clear h hs
  go_enter Tryz.func120, Tryz.ntmps120
  go_wp2_with fail
  go_loopw [3, 11] (fun s i wr => ∃ k : Nat, k ≤ n ∧ i = .int .i64 k ∧ (∃ t : Nat, s = .int .i64 t ∧ Hid (t = sumI (R.take k))) ∧ w = wr) (fun s i _ => n - (intOf i).toNat)
  case atStart => exact ⟨0, by omega, rfl, ⟨0, rfl, rfl⟩, rfl⟩
  case round =>
    obtain ⟨k, hk, rfl, ⟨t, rfl, ht⟩, rfl⟩ := hrel
    have htb : (t : Int) ≤ 1000000 := by have h1 := sumI_take_le R k; have h2 := HS.out; have h3 := ht.out; omega
    have ht0 : (0 : Int) ≤ (t : Int) := by omega
    by_cases hlt : k < n
    · have hi0 : (0 : Int) ≤ (k : Int) := by omega
      have hi5 : (k : Int) < (n : Int) := by omega
      obtain ⟨b, off, x, y, z, rfl, e0, hp⟩ := HI.out.2.2.2 k hlt
      have hy : (y : Int) ≤ 1000000 := by
        have h1 := hp.1
        have h2 := sumI_get (g := R) (k := k) (by rw [HL.out]; exact hlt)
        have h3 := HS.out
        omega
      have hy0 : (0 : Int) ≤ (y : Int) := by omega
      have HT : Hid (t + y = sumI (R.take (k + 1))) := Lib.hid (by rw [sumI_take (by rw [HL.out]; exact hlt), ← ht.out, hp.1])
      have hneg : decide ((t : Int) + (y : Int) < 0) = false := decide_eq_false (by omega)
      clear hp
      go_wp2_with fail
      go_roundw
      case rel => exact ⟨k + 1, by omega, by go_num, ⟨t + y, by go_num, HT⟩, by first | trivial | rfl⟩
      case measure => simp [intOf]; omega
    · obtain rfl : n = k := by omega
      have hi5 : ¬ ((n : Int) < (n : Int)) := by omega
      have htt : t = sumI R := by have := ht.out; rw [List.take_of_length_le (by rw [HL.out]; exact Nat.le_refl _)] at this; exact this
      have HG := HG
      rw [← htt] at HG
      clear htt
      go_wp2_with fail
      refine HG.out.mono ?_
      rintro e w1 ⟨v1, rfl, ho1, hb1⟩
      have H1 := Lib.hid (And.intro ho1 hb1)
      clear ho1 hb1
      go_wp2_with fail
      go_loopw [6, 27] (fun v i wr => ∃ k : Nat, k ≤ n ∧ i = .int .i64 k ∧ Hid (OwnI wr w.heap.size v (R.take k).flatten) ∧ Hid (Below w.heap.size w wr)) (fun _ i _ => n - (intOf i).toNat)
      case atStart => exact ⟨0, by omega, rfl, H1.out.1, H1.out.2⟩
      case round =>
        obtain ⟨k, hk, rfl, hown, hbl⟩ := hrel
        by_cases hlt : k < n
        · have hi0 : (0 : Int) ≤ (k : Int) := by omega
          have hi5 : (k : Int) < (n : Int) := by omega
          obtain ⟨b, off, x, y, z, rfl, e0, hp⟩ := (HI.out.later hbl.out (Nat.le_refl _)).2.2.2 k hlt
          have HP := Lib.hid hp
          have HT : Hid ((R.take (k + 1)).flatten = (R.take k).flatten ++ R.getD k []) := Lib.hid (flatten_take (by rw [HL.out]; exact hlt))
          have HLN : Hid ((R.take k).flatten.length + y ≤ 1000000000) := Lib.hid (by
            have h1 := sumI_take_le R k
            have h2 := sumI_get (g := R) (k := k) (by rw [HL.out]; exact hlt)
            have h3 := HS.out
            have h4 := hp.1
            rw [sumI_flatten]
            omega)
          clear hp
          go_wp2_with (at_builtin; refine wpList_append_ints rfl _ _ rfl w.heap.size _ (R.take k).flatten rfl hown.out _ _ _ (R.getD k []) rfl HP.out HLN.out hbl.out.size ?_
                       intro v5 w5 hown5 hg5
                       have H5 := Lib.hid (And.intro hown5 (hbl.out.grown hg5 hbl.out.size (fun k hk => (hown.out.lt k hk).1)))
                       clear hown5 hg5)
          go_roundw
          case rel => exact ⟨k + 1, by omega, by go_num, by rw [HT.out]; exact H5.out.1, H5.out.2⟩
          case measure => simp [intOf]; omega
        · obtain rfl : n = k := by omega
          have hi5 : ¬ ((n : Int) < (n : Int)) := by omega
          go_wp2_with fail
          go_ret
          refine ⟨_, rfl, ?_, hbl.out⟩
          have := hown.out
          rw [List.take_of_length_le (by rw [HL.out]; exact Nat.le_refl _)] at this
          exact this
end Go.Proofs.YtjiiikeniocmfaaGreat
