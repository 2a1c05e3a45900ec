/- the reference's disk: remove -/
import Derived.Test.YtmpjjkfbojhfoaaRAppA
set_option linter.unusedSimpArgs false
namespace Go.Proofs.Ytmpjjkfbojhfoaa
open Go.RowKit
set_option linter.unusedSectionVars false
variable [Zone]
theorem RefAt.rows {w : World} {r base : Nat} {R : List FileV} {N lf : Int} {fz out : Bool} (h : RefAt w r base R N fz lf out) : ∃ a cap, RefRow w r (.slice a R.length cap) N fz lf out ∧ IsRFiles w a R.length cap R ∧ (0 < R.length → ∃ g, a = some ⟨g, 0, none⟩) ∧ r < w.heap.size ∧ ∀ w', Below w.heap.size w w' → w'.frozen? ⟨r, 0, none⟩ = false := by
  obtain ⟨hbr, v, T, hr, hown, hf⟩ := h
  have hrl := hr.lt
  have hfz : ∀ w', Below w.heap.size w w' → w'.frozen? ⟨r, 0, none⟩ = false := fun w' hb => frozen_of_row _ _ _ _ _ ((hb.block r hrl).trans hr)
  rcases hown.1.2 with ⟨rfl, h0⟩ | ⟨g, cap, cur, rfl, _, hg, _⟩
  · have hT : T = [] := List.eq_nil_of_length_eq_zero h0
    subst hT
    have hR : R = [] := List.eq_nil_of_length_eq_zero hf.1.symm
    subst hR
    exact ⟨none, 0, hr, IsRFiles.nil w, fun h => absurd h (by simp), hrl, hfz⟩
  · obtain ⟨ao, cap', e, h3⟩ := hown.is3
    injection e with e1 e2 e3
    subst e1
    subst e3
    have hl := hf.1
    refine ⟨_, _, hl ▸ hr, hl ▸ ⟨T, h3, hf⟩, fun _ => ⟨g, rfl⟩, hrl, hfz⟩
set_option maxRecDepth 100000 in
set_option maxHeartbeats 4000000 in
theorem remove_any (k : Nat) (r base : Nat) (R : List FileV) (N : Int) (fz : Bool) (lf : Int) (out : Bool) (w : World) (h : RefAt w r base R N fz lf out) (hk : k < R.length) (hR : R.length ≤ 1000000) :
    Calls Try.prog 76 #[.pointer (some ⟨r, 0, none⟩), .int .i64 (k : Int)] w fun e w' => e = .returned (.tuple #[]) ∧ RefAt w' r base (R.take k ++ R.drop (k + 1)) N fz lf out ∧ MovedR r base w w' := by
  obtain ⟨a, cap, hr, hfl, hg, hrl, hfz⟩ := h.rows
  obtain ⟨g, rfl⟩ := hg (by omega)
  obtain ⟨n, hn⟩ : ∃ n, n = R.length := ⟨_, rfl⟩
  rw [← hn] at hr hfl hk hR
  have hcap := hfl.len.2.1
  have hcm := hfl.len.2.2
  unfold maxLen at hcm
  have r0 : w.cell? ⟨r, 0, none⟩ = some (.slice (some ⟨g, 0, none⟩) n cap) := hr.cells.1
  have hd := hfl.dropped (show k + 1 ≤ n by omega)
  have HX : Hid ((IsRFiles w (some ⟨g, 0, none⟩) k cap (R.take k) ∧ IsRFiles w (if cap = k + 1 then some ⟨g, 0, none⟩ else some ⟨g, (k + 1) * 3, none⟩) (n - (k + 1)) (cap - (k + 1)) (R.drop (k + 1))) ∧ (R.length ≤ 1000000) ∧ r < w.heap.size) := Lib.hid ⟨⟨hfl.take (by omega), hd⟩, by omega, hrl⟩
  have HH := Lib.hid h
  have HFZ := Lib.hid hfz
  have hk0 : (0 : Int) ≤ (k : Int) := by omega
  have hk1 : (k : Int) ≤ (cap : Int) := by omega
  have hw1 : IntKind.i64.wrap ((k : Int) + 1) = ((k + 1 : Nat) : Int) := by
    rw [IntWalk.i64_in _ (by omega)]
    omega
  have hk2 : (k : Int) + 1 ≤ (n : Int) := by omega
  have hk3 : (0 : Int) ≤ (k : Int) + 1 := by omega
  clear hr hfl hd h hfz hg hn
  go_enter Try.func76, Try.ntmps76
  refine wp_region_D 19 (S := fun w' => w'.cell? ⟨r, 0, none⟩ = some (.slice (some ⟨g, 0, none⟩) n cap)) (by kernel_rfl) ?hS0 (fun hHeld => ?_)
  case hS0 => (exact ((Below.refl w.heap.size w).drew.cell (p := ⟨r, 0, none⟩) HX.out.2.2).trans r0)
  refine anyD_take (i := 0) (v := ?v1) rfl (by kernel_rfl) (by kernel_rfl) (by kernel_rfl) (by kernel_rfl) (fun _ _ _ h => h) (Or.inl ⟨?hw1, ?hy1⟩) (by assumption) ?_
  case hw1 => rfl
  case hy1 => (intro w hSw; (try dsimp only at hSw); go_simp; (first | done | with_reducible rfl))
  try simp only [Act.put, List.setIfInBounds_toArray, List.set_cons_zero, List.set_cons_succ]
  refine anyD_take (i := 2) (v := ?v2) rfl (by kernel_rfl) (by kernel_rfl) (by kernel_rfl) (by kernel_rfl) (fun _ _ _ h => h) (Or.inl ⟨?hw2, ?hy2⟩) (by assumption) ?_
  case hw2 => rfl
  case hy2 => (intro w hSw; (try dsimp only at hSw); go_simp; (first | done | with_reducible rfl))
  try simp only [Act.put, List.setIfInBounds_toArray, List.set_cons_zero, List.set_cons_succ]
  refine anyD_take (i := 3) (v := ?v3) rfl (by kernel_rfl) (by kernel_rfl) (by kernel_rfl) (by kernel_rfl) (fun _ _ _ h => h) (Or.inl ⟨?hw3, ?hy3⟩) (by assumption) ?_
  case hw3 => rfl
  case hy3 => (intro w hSw; (try dsimp only at hSw); go_simp; (first | done | with_reducible rfl))
  try simp only [Act.put, List.setIfInBounds_toArray, List.set_cons_zero, List.set_cons_succ]
  refine anyD_take (i := 4) (v := ?v4) rfl (by kernel_rfl) (by kernel_rfl) (by kernel_rfl) (by kernel_rfl) (fun _ _ _ h => h) (Or.inl ⟨?hw4, ?hy4⟩) (by assumption) ?_
  case hw4 => rfl
  case hy4 => (intro w hSw; (try dsimp only at hSw); go_simp; (first | done | with_reducible rfl))
  try simp only [Act.put, List.setIfInBounds_toArray, List.set_cons_zero, List.set_cons_succ]
  refine anyD_take (i := 5) (v := ?v5) rfl (by kernel_rfl) (by kernel_rfl) (by kernel_rfl) (by kernel_rfl) (fun _ _ _ h => h) (Or.inl ⟨?hw5, ?hy5⟩) (by assumption) ?_
  case hw5 => rfl
  case hy5 => (intro w hSw; (try dsimp only at hSw); go_simp; (first | done | with_reducible rfl))
  try simp only [Act.put, List.setIfInBounds_toArray, List.set_cons_zero, List.set_cons_succ]
  refine anyD_take (i := 6) (v := ?v6) rfl (by kernel_rfl) (by kernel_rfl) (by kernel_rfl) (by kernel_rfl) (fun _ _ _ h => h) (Or.inl ⟨?hw6, ?hy6⟩) (by assumption) ?_
  case hw6 => rfl
  case hy6 => (intro w hSw; (try dsimp only at hSw); go_simp; (first | done | with_reducible rfl))
  try simp only [Act.put, List.setIfInBounds_toArray, List.set_cons_zero, List.set_cons_succ]
  refine anyD_take (i := 7) (v := ?v7) rfl (by kernel_rfl) (by kernel_rfl) (by kernel_rfl) (by kernel_rfl) (fun _ _ _ h => h) (Or.inl ⟨?hw7, ?hy7⟩) (by assumption) ?_
  case hw7 => rfl
  case hy7 => (intro w hSw; (try dsimp only at hSw); go_simp; (first | done | with_reducible rfl))
  try simp only [Act.put, List.setIfInBounds_toArray, List.set_cons_zero, List.set_cons_succ]
  refine anyD_take (i := 9) (v := ?v8) rfl (by kernel_rfl) (by kernel_rfl) (by kernel_rfl) (by kernel_rfl) (fun _ _ _ h => h) (Or.inl ⟨?hw8, ?hy8⟩) (by assumption) ?_
  case hw8 => rfl
  case hy8 => (intro w hSw; (try dsimp only at hSw); go_simp; (first | done | with_reducible rfl))
  try simp only [Act.put, List.setIfInBounds_toArray, List.set_cons_zero, List.set_cons_succ]
  refine anyD_take (i := 10) (v := ?v9) rfl (by kernel_rfl) (by kernel_rfl) (by kernel_rfl) (by kernel_rfl) (fun _ _ _ h => h) (Or.inl ⟨?hw9, ?hy9⟩) (by assumption) ?_
  case hw9 => rfl
  case hy9 => (intro w hSw; (try dsimp only at hSw); go_simp; (first | done | with_reducible rfl))
  try simp only [Act.put, List.setIfInBounds_toArray, List.set_cons_zero, List.set_cons_succ]
  refine anyD_take (i := 11) (v := ?v10) rfl (by kernel_rfl) (by kernel_rfl) (by kernel_rfl) (by kernel_rfl) (fun _ _ _ h => h) (Or.inl ⟨?hw10, ?hy10⟩) (by assumption) ?_
  case hw10 => rfl
  case hy10 => (intro w hSw; (try dsimp only at hSw); go_simp; (first | done | with_reducible rfl))
  try simp only [Act.put, List.setIfInBounds_toArray, List.set_cons_zero, List.set_cons_succ]
  refine anyD_take (i := 12) (v := ?v11) rfl (by kernel_rfl) (by kernel_rfl) (by kernel_rfl) (by kernel_rfl) (fun _ _ _ h => h) (Or.inl ⟨?hw11, ?hy11⟩) (by assumption) ?_
  case hw11 => rfl
  case hy11 => (intro w hSw; (try dsimp only at hSw); go_simp; (first | done | with_reducible rfl))
  try simp only [Act.put, List.setIfInBounds_toArray, List.set_cons_zero, List.set_cons_succ]
  refine anyD_take (i := 13) (v := ?v12) rfl (by kernel_rfl) (by kernel_rfl) (by kernel_rfl) (by kernel_rfl) (fun _ _ _ h => h) (Or.inl ⟨?hw12, ?hy12⟩) (by assumption) ?_
  case hw12 => rfl
  case hy12 => (intro w hSw; (try dsimp only at hSw); go_simp; (first | done | with_reducible rfl))
  try simp only [Act.put, List.setIfInBounds_toArray, List.set_cons_zero, List.set_cons_succ]
  refine anyD_take (i := 14) (v := ?v13) rfl (by kernel_rfl) (by kernel_rfl) (by kernel_rfl) (by kernel_rfl) (fun _ _ _ h => h) (Or.inl ⟨?hw13, ?hy13⟩) (by assumption) ?_
  case hw13 => rfl
  case hy13 => (intro w hSw; (try dsimp only at hSw); go_simp; (first | done | with_reducible rfl))
  try simp only [Act.put, List.setIfInBounds_toArray, List.set_cons_zero, List.set_cons_succ]
  refine anyD_take (i := 15) (v := ?v14) rfl (by kernel_rfl) (by kernel_rfl) (by kernel_rfl) (by kernel_rfl) (fun _ _ _ h => h) (Or.inl ⟨?hw14, ?hy14⟩) (by assumption) ?_
  case hw14 => rfl
  case hy14 => (intro w hSw; (try dsimp only at hSw); go_simp; (first | done | with_reducible rfl))
  try simp only [Act.put, List.setIfInBounds_toArray, List.set_cons_zero, List.set_cons_succ]
  refine anyD_ready (rs := [1]) (by kernel_rfl) (by simp) ?_
  refine AllD.cons (o := _) rfl (fun K hK => ?step15) ?_
  case step15 =>
    go_simp
    have hb1 : Below w.heap.size w (w.alloc (.cells #[] 90)).drew := ((Below.refl w.heap.size w).alloc (Nat.le_refl _) _).drew
    have o1 : OwnF (w.alloc (.cells #[] 90)).drew w.heap.size (.slice (some ⟨w.heap.size, 0, none⟩) 0 0) [] := (OwnF.none_new w _ (Nat.le_refl _)).later (Below.refl _ _).drew
    generalize (w.alloc (.cells #[] 90)).drew = X1 at hb1 o1 ⊢
    refine hK.out _ _ ?hS15 (fun hHeld => ?_)
    case hS15 => (intro _; (exact (hb1.cell (p := ⟨r, 0, none⟩) HX.out.2.2).trans r0))
    replace hHeld := hHeld (by decide)
    clear hK K
    try simp only [Act.put, List.setIfInBounds_toArray, List.set_cons_zero, List.set_cons_succ]
    refine anyD_ready (rs := [8]) (by kernel_rfl) (by simp) ?_
    refine AllD.cons (o := _) rfl (fun K hK => ?step16) ?_
    case step16 =>
      rw [if_pos (by rfl)]
      refine opwp_append_files _ _ rfl w.heap.size (.slice (some ⟨w.heap.size, 0, none⟩) 0 0) [] rfl o1 (some ⟨g, 0, none⟩) k cap (R.take k) rfl (HX.out.1.1.later hb1) (by have := HX.out.2.1; simp; omega) hb1.size ?_
      intro v8 X8 o8 g8
      have hb8 := Below.grownF hb1 o1 hb1.size g8
      rw [List.nil_append] at o8
      clear g8
      refine hK.out _ _ ?hS16 (fun hHeld => ?_)
      case hS16 => (intro _; (exact (hb8.cell (p := ⟨r, 0, none⟩) HX.out.2.2).trans r0))
      replace hHeld := hHeld (by decide)
      clear hK K
      try simp only [Act.put, List.setIfInBounds_toArray, List.set_cons_zero, List.set_cons_succ]
      refine anyD_ready (rs := [16]) (by kernel_rfl) (by simp) ?_
      refine AllD.cons (o := _) rfl (fun K hK => ?step17) ?_
      case step17 =>
        rw [if_pos (by rfl)]
        refine opwp_append_files _ _ rfl w.heap.size v8 (R.take k) rfl o8 _ _ _ (R.drop (k + 1)) rfl (HX.out.1.2.later hb8) (by have := HX.out.2.1; simp; omega) hb8.size ?_
        intro v16 X16 o16 g16
        have hb16 := Below.grownF hb8 o8 hb8.size g16
        obtain ⟨a16, c16, hv16, _⟩ := o16.files
        have HO16 := Lib.hid o16
        obtain ⟨m16, hm16⟩ : ∃ m16, m16 = (R.take k ++ R.drop (k + 1)).length := ⟨_, rfl⟩
        rw [← hm16] at hv16
        subst hv16
        have q16 : X16.cell? ⟨r, 0, none⟩ = some (.slice (some ⟨g, 0, none⟩) n cap) := (hb16.cell (p := ⟨r, 0, none⟩) HX.out.2.2).trans r0
        have f16 : X16.frozen? ⟨r, 0, none⟩ = false := HFZ.out X16 hb16
        clear g16 o16 hm16
        refine hK.out _ _ ?hS17 (fun hHeld => ?_)
        case hS17 => (intro _; (exact (hb16.cell (p := ⟨r, 0, none⟩) HX.out.2.2).trans r0))
        replace hHeld := hHeld (by decide)
        clear hK K
        try simp only [Act.put, List.setIfInBounds_toArray, List.set_cons_zero, List.set_cons_succ]
        refine anyD_ready (rs := [17]) (by kernel_rfl) (by simp) ?_
        refine AllD.cons (o := _) rfl (fun K hK => ?step18) ?_
        case step18 =>
          go_simp
          refine hK.out _ _ ?hS18 (fun hHeld => ?_)
          case hS18 => (intro _; (exact (hb16.cell (p := ⟨r, 0, none⟩) HX.out.2.2).trans r0))
          replace hHeld := hHeld (by decide)
          clear hK K
          try simp only [Act.put, List.setIfInBounds_toArray, List.set_cons_zero, List.set_cons_succ]
          refine anyD_take (i := 18) (v := ?v19) rfl (by kernel_rfl) (by kernel_rfl) (by kernel_rfl) (by kernel_rfl) (fun _ _ _ h => h) (Or.inl ⟨?hw19, ?hy19⟩) (by assumption) ?_
          case hw19 => rfl
          case hy19 => (intro w hSw; (try dsimp only at hSw); go_simp; (first | done | with_reducible rfl))
          try simp only [Act.put, List.setIfInBounds_toArray, List.set_cons_zero, List.set_cons_succ]
          refine anyD_ready (rs := [19]) (by kernel_rfl) (by simp) ?_
          refine AllD.cons (o := _) rfl (fun K hK => ?step20) ?_
          case step20 =>
            go_simp
            refine hK.out _ _ ?hS20 (fun hHeld => ?_)
            case hS20 => exact fun h => absurd rfl h
            clear hK K
            try simp only [Act.put, List.setIfInBounds_toArray, List.set_cons_zero, List.set_cons_succ]
            refine anyD_done (by kernel_rfl) ?_ _
            have HE := Lib.hid (HH.out.list hb16 HO16.out)
            go_end0
            exact ⟨rfl, HE.out⟩
          exact AllD.nil
        exact AllD.nil
      exact AllD.nil
    exact AllD.nil
  exact AllD.nil
end Go.Proofs.Ytmpjjkfbojhfoaa
