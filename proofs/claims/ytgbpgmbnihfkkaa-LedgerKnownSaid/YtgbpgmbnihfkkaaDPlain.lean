/- disk: Cut, Loose -/
import Derived.Test.YtgbpgmbnihfkkaaDApp5
namespace Go.Proofs.Ytgbpgmbnihfkkaa
open Go.RowKit
set_option linter.unusedSectionVars false
variable [Zone]
variable {nm : ByteArray}
theorem cutS {W w' : World} {p bb f base : Nat} {bv sv lv : Value} {D : List Deed} (hp : W.heap[p]? = some (.cells #[.pointer (some ⟨f, 0, none⟩)] 55 (0, 0))) (hbb : W.heap[bb]? = some (.cells #[bv] 3 (0, 0)))
    (hr : FileRow W f sv lv) (ho : OwnD W base lv D) (hg : W.grownBy w' lv.ownBlock) : AppS p bb f bv w' ∧ (∀ u, AppS p bb f bv (w'.setCell ⟨f, 1, none⟩ u)) ∧ w'.cell? ⟨f, 1, none⟩ = some lv := by
  have h1 := (hg.block p (heap_lt hp) (ho.ne hp (by decide))).trans hp
  have h2 := (hg.block bb (heap_lt hbb) (ho.ne hbb (by decide))).trans hbb
  have h3 : w'.heap[f]? = some (.cells #[sv, lv] 61 (0, 0)) := (hg.block f (heap_lt hr) (ho.ne hr (by decide))).trans hr
  have n1 : p ≠ f := by rintro rfl; rw [h1] at h3; cases h3
  have n2 : bb ≠ f := by rintro rfl; rw [h2] at h3; cases h3
  refine ⟨⟨cell_of_row _ _ _ _ _ _ h1, cell_of_row _ _ _ _ _ _ h2, frozen_of_row _ _ _ _ _ h3⟩, fun u => ⟨cell_of_row _ _ _ _ _ _ ((Below.heap_setCell _ _ _ _ n1).trans h1), cell_of_row _ _ _ _ _ _ ((Below.heap_setCell _ _ _ _ n2).trans h2), frozen_of_row _ _ _ _ _ (heap_setCell_same w' f 1 _ _ u h3)⟩, cell_of_row _ _ _ _ _ _ h3⟩
set_option maxRecDepth 100000 in
set_option maxHeartbeats 2000000 in
theorem CutDo_any (base p bb d mb f z : Nat) (M : List Ent) (st fu : Int) (S : List UInt8) (D : List Deed) (W : World) (hbs : base ≤ W.heap.size)
    (hp : W.heap[p]? = some (.cells #[.pointer (some ⟨f, 0, none⟩)] 55 (0, 0))) (hbb : W.heap[bb]? = some (.cells #[.int .i64 (z : Int)] 3 (0, 0)))
    (hd : DiskRow W d mb st fu false) (hm : MapHas W mb M) (hf : FileOwn W f base S D) (hD : D.length ≤ 1000000)
    (hfit : fitsD S (D ++ [Deed.cut z])) (hsm : S.length + ((D ++ [Deed.cut z]).map Deed.units).sum ≤ 4294967296) :
    Calls Try.prog 45 #[.pointer (some ⟨p, 0, none⟩), .pointer (some ⟨bb, 0, none⟩)] W
      fun e w' => e = .returned (.tuple #[]) ∧ DiskRow w' d mb st fu false ∧ MapHas w' mb M ∧ FileOwn w' f base S (D ++ [Deed.cut z]) ∧ Moved d mb f W w' := by
  obtain ⟨⟨ao2, n2, cap2, lv, hr, hs, hl⟩, _, _⟩ := hf
  have HS := Lib.hid (fun (w' : World) (hg : W.grownBy w' lv.ownBlock) => cutS hp hbb hr hl hg)
  have HE := Lib.hid (fun (w' : World) (v' : Value) (hg : W.grownBy w' lv.ownBlock) (ho' : OwnD w' base v' (D ++ [Deed.cut z])) (hrw : ∀ k, v'.ownBlock = some k → lv.ownBlock = some k ∨ W.heap.size ≤ k) => app_end hr hs hl hd hm hg ho' hrw hfit hsm)
  have HLEN : Hid ((D ++ [Deed.cut z]).length = D.length + 1) := Lib.hid (by simp)
  have hf1 : W.cell? ⟨f, 1, none⟩ = some lv := cell_of_row _ _ _ _ _ _ hr
  have hf2 : ∀ o, (W.drew.alloc o).cell? ⟨f, 1, none⟩ = some lv := fun o => ((((Below.refl W.heap.size W).drew).alloc (Nat.le_refl _) o).cell (block_lt_of_cell hf1)).trans hf1
  have hf3 : ∀ o, (W.alloc o).cell? ⟨f, 1, none⟩ = some lv := fun o => ((((Below.refl W.heap.size W)).alloc (Nat.le_refl _) o).cell (block_lt_of_cell hf1)).trans hf1
  have HL := Lib.hid hl
  have HD := Lib.hid hD
  have HBW := Lib.hid hbs
  clear hd hm hbb hp hfit hsm hr hs hl hD hbs
  go_enter Try.func45, Try.ntmps45
  go_wp2_with fail
  refine wp_region_held_drew (S := fun w' => w'.cell? ⟨p, 0, none⟩ = some (.pointer (some ⟨f, 0, none⟩)) ∧ w'.cell? ⟨bb, 0, none⟩ = some (.int .i64 (z : Int)) ∧ w'.frozen? ⟨f, 1, none⟩ = false) (by kernel_rfl) ?hS0 (fun hHeld => ?_)
  case hS0 => (exact (HS.out _ (below_grownBy (Below.refl _ _).drew _)).1)
  refine wpAnyH_take (i := 0) (v := ?v1) rfl (by kernel_rfl) (by kernel_rfl) (by kernel_rfl) (fun _ _ _ h => h) (Or.inl ⟨?hw1, ?hy1⟩) (by assumption) ?_
  case hw1 => rfl
  case hy1 => (intro w hSw; (try dsimp only at hSw); go_simp; (first | done | with_reducible rfl))
  try simp only [Act.put, List.setIfInBounds_toArray]
  refine wpAnyH_take (i := 1) (v := ?v2) rfl (by kernel_rfl) (by kernel_rfl) (by kernel_rfl) (fun _ _ _ h => h) (Or.inl ⟨?hw2, ?hy2⟩) (by assumption) ?_
  case hw2 => rfl
  case hy2 => (intro w hSw; (try dsimp only at hSw); go_simp; (first | done | with_reducible rfl))
  try simp only [Act.put]
  refine wpAnyH_take (i := 2) (v := ?v3) rfl (by kernel_rfl) (by kernel_rfl) (by kernel_rfl) (fun _ _ _ h => h) (Or.inl ⟨?hw3, ?hy3⟩) (by assumption) ?_
  case hw3 => rfl
  case hy3 => (intro w hSw; (try dsimp only at hSw); go_simp; (first | done | with_reducible rfl))
  try simp only [Act.put]
  refine wpAnyH_take (i := 3) (v := ?v4) rfl (by kernel_rfl) (by kernel_rfl) (by kernel_rfl) (fun _ _ _ h => h) (Or.inl ⟨?hw4, ?hy4⟩) (by assumption) ?_
  case hw4 => rfl
  case hy4 => (intro w hSw; (try dsimp only at hSw); go_simp; (first | done | with_reducible rfl))
  try simp only [Act.put]
  refine wpAnyH_take (i := 5) (v := ?v5) rfl (by kernel_rfl) (by kernel_rfl) (by kernel_rfl) (fun _ _ _ h => h) (Or.inl ⟨?hw5, ?hy5⟩) (by assumption) ?_
  case hw5 => rfl
  case hy5 => (intro w hSw; (try dsimp only at hSw); go_simp; (first | done | with_reducible rfl))
  try simp only [Act.put]
  refine wpAnyH_take (i := 6) (v := ?v6) rfl (by kernel_rfl) (by kernel_rfl) (by kernel_rfl) (fun _ _ _ h => h) (Or.inl ⟨?hw6, ?hy6⟩) (by assumption) ?_
  case hw6 => rfl
  case hy6 => (intro w hSw; (try dsimp only at hSw); go_simp; (first | done | with_reducible rfl))
  try simp only [Act.put]
  refine wpAnyH_ready (rs := [4, 7]) (by kernel_rfl) (by simp) ?_
  refine AllReadyH.cons (o := _) rfl (fun K hK => ?step7) ?_
  case step7 =>
    go_simp
    refine hK.out _ _ ?hS7 (fun hHeld => ?_)
    case hS7 => (first | (exact (HS.out _ (below_grownBy (Below.refl _ _).drew _)).1) | (exact (HS.out _ hgn).1) | (exact (HS.out _ hgn).2.1 _) | (exact (HS.out _ (below_grownBy (((Below.refl _ _).drew).alloc (Nat.le_refl _) _) _)).1))
    clear hK K
    try simp only [Act.put, List.setIfInBounds_toArray, List.set_cons_zero, List.set_cons_succ]
    refine wpAnyH_ready (rs := [7]) (by kernel_rfl) (by simp) ?_
    refine AllReadyH.cons (o := _) rfl (fun K hK => ?step8) ?_
    case step8 =>
      go_simp
      refine hK.out _ _ ?hS8 (fun hHeld => ?_)
      case hS8 => (first | (exact (HS.out _ (below_grownBy (Below.refl _ _).drew _)).1) | (exact (HS.out _ hgn).1) | (exact (HS.out _ hgn).2.1 _) | (exact (HS.out _ (below_grownBy (((Below.refl _ _).drew).alloc (Nat.le_refl _) _) _)).1))
      clear hK K
      try simp only [Act.put, List.setIfInBounds_toArray, List.set_cons_zero, List.set_cons_succ]
      refine wpAnyH_ready (rs := [8]) (by kernel_rfl) (by simp) ?_
      refine AllReadyH.cons (o := _) rfl (fun K hK => ?step9) ?_
      case step9 =>
        rw [if_pos (by rfl)]
        have hbW : Below W.heap.size W (W.drew.alloc (.cells #[.iface 88 (.int .i64 (z : Int))] 81)) := ((Below.refl _ _).drew).alloc (Nat.le_refl _) _
        refine opwp_append_deed _ _ rfl base lv D rfl (HL.out.later hbW) W.heap.size 1 rfl (.iface 88 (.int .i64 (z : Int))) (.cut z) (cell_of_row _ _ _ _ _ _ (heap_alloc_new _ _)) rfl trivial HD.out (Nat.le_trans HBW.out hbW.size) ?_
        intro v2 w2 ho2 hg2 hrw2
        have HRW : Hid (∀ k, v2.ownBlock = some k → lv.ownBlock = some k ∨ W.heap.size ≤ k) := Lib.hid (fun k hk => (hrw2 k hk).imp id (Nat.le_trans hbW.size))
        clear hrw2
        have hgn : W.grownBy w2 lv.ownBlock := grownBy_trans (below_grownBy hbW _) hg2
        obtain ⟨al2, cl2, hv2, _⟩ := ho2.deeds
        rw [HLEN.out] at hv2
        subst hv2
        have HO2 := Lib.hid ho2
        have hf1c := (HS.out _ hgn).2.2
        clear ho2
        refine hK.out _ _ ?hS9 (fun hHeld => ?_)
        case hS9 => (first | (exact (HS.out _ (below_grownBy (Below.refl _ _).drew _)).1) | (exact (HS.out _ hgn).1) | (exact (HS.out _ hgn).2.1 _) | (exact (HS.out _ (below_grownBy (((Below.refl _ _).drew).alloc (Nat.le_refl _) _) _)).1))
        clear hK K
        try simp only [Act.put, List.setIfInBounds_toArray]
        refine wpAnyH_take (i := 9) (v := ?v10) rfl (by kernel_rfl) (by kernel_rfl) (by kernel_rfl) (fun _ _ _ h => h) (Or.inl ⟨?hw10, ?hy10⟩) (by assumption) ?_
        case hw10 => rfl
        case hy10 => (intro w hSw; (try dsimp only at hSw); go_simp; (first | done | with_reducible rfl))
        try simp only [Act.put]
        refine wpAnyH_take (i := 10) (v := ?v11) rfl (by kernel_rfl) (by kernel_rfl) (by kernel_rfl) (fun _ _ _ h => h) (Or.inl ⟨?hw11, ?hy11⟩) (by assumption) ?_
        case hw11 => rfl
        case hy11 => (intro w hSw; (try dsimp only at hSw); go_simp; (first | done | with_reducible rfl))
        try simp only [Act.put]
        refine wpAnyH_ready (rs := [11]) (by kernel_rfl) (by simp) ?_
        refine AllReadyH.cons (o := _) rfl (fun K hK => ?step12) ?_
        case step12 =>
          go_simp
          refine hK.out _ _ ?hS12 (fun hHeld => ?_)
          case hS12 => (first | (exact (HS.out _ (below_grownBy (Below.refl _ _).drew _)).1) | (exact (HS.out _ hgn).1) | (exact (HS.out _ hgn).2.1 _) | (exact (HS.out _ (below_grownBy (((Below.refl _ _).drew).alloc (Nat.le_refl _) _) _)).1))
          clear hK K
          try simp only [Act.put, List.setIfInBounds_toArray, List.set_cons_zero, List.set_cons_succ]
          refine wpAnyH_done (by kernel_rfl) ?_ _
          go_wp2_with fail
          go_end0
          obtain ⟨e1, e2, e3, e4⟩ := HE.out w2 _ hgn HO2.out HRW.out
          exact ⟨rfl, e1, e2, e3, e4⟩
        exact AllReadyH.nil
      exact AllReadyH.nil
    exact AllReadyH.nil
  refine AllReadyH.cons (o := _) rfl (fun K hK => ?step13) ?_
  case step13 =>
    go_simp
    refine hK.out _ _ ?hS13 (fun hHeld => ?_)
    case hS13 => (first | (exact (HS.out _ (below_grownBy (Below.refl _ _).drew _)).1) | (exact (HS.out _ hgn).1) | (exact (HS.out _ hgn).2.1 _) | (exact (HS.out _ (below_grownBy (((Below.refl _ _).drew).alloc (Nat.le_refl _) _) _)).1))
    clear hK K
    try simp only [Act.put, List.setIfInBounds_toArray, List.set_cons_zero, List.set_cons_succ]
    refine wpAnyH_ready (rs := [4]) (by kernel_rfl) (by simp) ?_
    refine AllReadyH.cons (o := _) rfl (fun K hK => ?step14) ?_
    case step14 =>
      go_simp
      refine hK.out _ _ ?hS14 (fun hHeld => ?_)
      case hS14 => (first | (exact (HS.out _ (below_grownBy (Below.refl _ _).drew _)).1) | (exact (HS.out _ hgn).1) | (exact (HS.out _ hgn).2.1 _) | (exact (HS.out _ (below_grownBy (((Below.refl _ _).drew).alloc (Nat.le_refl _) _) _)).1))
      clear hK K
      try simp only [Act.put, List.setIfInBounds_toArray, List.set_cons_zero, List.set_cons_succ]
      refine wpAnyH_ready (rs := [8]) (by kernel_rfl) (by simp) ?_
      refine AllReadyH.cons (o := _) rfl (fun K hK => ?step15) ?_
      case step15 =>
        rw [if_pos (by rfl)]
        have hbW : Below W.heap.size W (W.drew.alloc (.cells #[.iface 88 (.int .i64 (z : Int))] 81)) := ((Below.refl _ _).drew).alloc (Nat.le_refl _) _
        refine opwp_append_deed _ _ rfl base lv D rfl (HL.out.later hbW) W.heap.size 1 rfl (.iface 88 (.int .i64 (z : Int))) (.cut z) (cell_of_row _ _ _ _ _ _ (heap_alloc_new _ _)) rfl trivial HD.out (Nat.le_trans HBW.out hbW.size) ?_
        intro v2 w2 ho2 hg2 hrw2
        have HRW : Hid (∀ k, v2.ownBlock = some k → lv.ownBlock = some k ∨ W.heap.size ≤ k) := Lib.hid (fun k hk => (hrw2 k hk).imp id (Nat.le_trans hbW.size))
        clear hrw2
        have hgn : W.grownBy w2 lv.ownBlock := grownBy_trans (below_grownBy hbW _) hg2
        obtain ⟨al2, cl2, hv2, _⟩ := ho2.deeds
        rw [HLEN.out] at hv2
        subst hv2
        have HO2 := Lib.hid ho2
        have hf1c := (HS.out _ hgn).2.2
        clear ho2
        refine hK.out _ _ ?hS15 (fun hHeld => ?_)
        case hS15 => (first | (exact (HS.out _ (below_grownBy (Below.refl _ _).drew _)).1) | (exact (HS.out _ hgn).1) | (exact (HS.out _ hgn).2.1 _) | (exact (HS.out _ (below_grownBy (((Below.refl _ _).drew).alloc (Nat.le_refl _) _) _)).1))
        clear hK K
        try simp only [Act.put, List.setIfInBounds_toArray]
        refine wpAnyH_take (i := 9) (v := ?v16) rfl (by kernel_rfl) (by kernel_rfl) (by kernel_rfl) (fun _ _ _ h => h) (Or.inl ⟨?hw16, ?hy16⟩) (by assumption) ?_
        case hw16 => rfl
        case hy16 => (intro w hSw; (try dsimp only at hSw); go_simp; (first | done | with_reducible rfl))
        try simp only [Act.put]
        refine wpAnyH_take (i := 10) (v := ?v17) rfl (by kernel_rfl) (by kernel_rfl) (by kernel_rfl) (fun _ _ _ h => h) (Or.inl ⟨?hw17, ?hy17⟩) (by assumption) ?_
        case hw17 => rfl
        case hy17 => (intro w hSw; (try dsimp only at hSw); go_simp; (first | done | with_reducible rfl))
        try simp only [Act.put]
        refine wpAnyH_ready (rs := [11]) (by kernel_rfl) (by simp) ?_
        refine AllReadyH.cons (o := _) rfl (fun K hK => ?step18) ?_
        case step18 =>
          go_simp
          refine hK.out _ _ ?hS18 (fun hHeld => ?_)
          case hS18 => (first | (exact (HS.out _ (below_grownBy (Below.refl _ _).drew _)).1) | (exact (HS.out _ hgn).1) | (exact (HS.out _ hgn).2.1 _) | (exact (HS.out _ (below_grownBy (((Below.refl _ _).drew).alloc (Nat.le_refl _) _) _)).1))
          clear hK K
          try simp only [Act.put, List.setIfInBounds_toArray, List.set_cons_zero, List.set_cons_succ]
          refine wpAnyH_done (by kernel_rfl) ?_ _
          go_wp2_with fail
          go_end0
          obtain ⟨e1, e2, e3, e4⟩ := HE.out w2 _ hgn HO2.out HRW.out
          exact ⟨rfl, e1, e2, e3, e4⟩
        exact AllReadyH.nil
      exact AllReadyH.nil
    exact AllReadyH.nil
  exact AllReadyH.nil
theorem enters_cut : ∀ args w, (callFunc 45 args).run Try.prog w = .ok (.enter 45 args) w := enters_of (hf := Try.func45) (hname := by kernel_rfl) (hb := rfl)
theorem cut_step (base p bb d mb f z : Nat) (M : List Ent) (st fu : Int) (S : List UInt8) (D : List Deed) (w : World) (hbs : base ≤ w.heap.size)
    (hp : w.heap[p]? = some (.cells #[.pointer (some ⟨f, 0, none⟩)] 55 (0, 0))) (hbb : w.heap[bb]? = some (.cells #[.int .i64 (z : Int)] 3 (0, 0)))
    (hdm : DiskM w st fu false d mb M) (hf : FileOwn w f base S D) (hD : D.length ≤ 1000000)
    (hfit : fitsD S (D ++ [Deed.cut z])) (hsm : S.length + ((D ++ [Deed.cut z]).map Deed.units).sum ≤ 4294967296) :
    Calls Try.prog 26 #[.pointer (some ⟨d, 0, none⟩), .func (.func 45) #[] #[.pointer (some ⟨p, 0, none⟩), .pointer (some ⟨bb, 0, none⟩)]] w
      fun e w' => ∃ y, e = .returned (.int .i64 y) ∧ Stepped fu y (DiskM w' st fu true d mb M ∧ FileOwn w' f base S D) (DiskM w' (wrap64 (st + 1)) (dec fu) false d mb M ∧ FileOwn w' f base S (D ++ [Deed.cut z])) ∧ Moved d mb f w w' := by
  have hd := hdm.2.2.1
  have hnd := hf.at.ne_disk hd
  refine (step_all d mb st fu _ _ M w hdm enters_cut (fun w' => (DiskM w' (wrap64 (st + 1)) (dec fu) false d mb M ∧ FileOwn w' f base S (D ++ [Deed.cut z])) ∧ Moved d mb f w w') (fun hfu => ?_)).mono ?_
  · have hmd := hdm.2.1
    have hne : ∀ {j : Nat} {v : Value} {t : TypeId} {fr : Nat × Nat}, w.heap[j]? = some (.cells #[v] t fr) → j ≠ d := by
      rintro j v t fr h rfl
      unfold DiskRow at hd
      rw [hd] at h
      cases h
    have hst : ∀ (j : Nat), j ≠ d → (stepW w d st fu).heap[j]? = w.heap[j]? := fun j hj => stepW_heap hj
    have hdm2 := hdm.stepped
    have hmv : Moved d mb f w (stepW w d st fu) := (Moved.refl _ _ _ _).stepW hnd
    refine (CutDo_any base p bb d mb f z M _ (dec fu) S D _ (by rw [stepW_size]; exact hbs) ((hst _ (hne hp)).trans hp) ((hst _ (hne hbb)).trans hbb) hdm2.2.2.1 hdm2.2.2.2 (hf.stepped hd) hD hfit hsm).mono ?_
    rintro e w' ⟨rfl, h1, h2, h3, h4⟩
    exact ⟨rfl, ⟨⟨hdm2.1, hmd, h1, h2⟩, h3⟩, hmv.trans h4⟩
  · rintro e w' ⟨y, rfl, ⟨h1, h2, rfl⟩ | ⟨h1, h2, q1, q2⟩⟩
    · exact ⟨y, rfl, .inl ⟨h1, h2, hdm.outed, hf.outed hd _ _⟩, (Moved.refl _ _ _ _).setCell_d hnd _ _⟩
    · exact ⟨y, rfl, .inr ⟨h1, h2, q1⟩, q2⟩
set_option maxRecDepth 100000 in
theorem Cut_any (base d mb f z : Nat) (M : List Ent) (st fu : Int) (S : List UInt8) (D : List Deed) (w : World) (hbs : base ≤ w.heap.size) (h : DiskM w st fu false d mb M) (hfo : fileOf nm M = some f) (hf : FileOwn w f base S D) (hz : z ≤ (allB S D).length) (hD : D.length ≤ 1000000)
    (hfit : fitsD S (D ++ [Deed.cut z])) (hsm : S.length + ((D ++ [Deed.cut z]).map Deed.units).sum ≤ 4294967296) :
    Calls Try.prog 32 #[.pointer (some ⟨d, 0, none⟩), .string nm, .int .i64 (z : Int)] w fun e w' => ∃ y, e = .returned (.int .i64 y) ∧ Stepped fu y (DiskM w' st fu true d mb M ∧ FileOwn w' f base S D) (DiskM w' (wrap64 (st + 1)) (dec fu) false d mb M ∧ FileOwn w' f base S (D ++ [Deed.cut z])) ∧ Moved d mb f w w' := by
  obtain ⟨c, hfit', hm⟩ := h.2.2.2
  have hd := h.2.2.1
  have HO := Lib.hid (fun (w' : World) (hb : Below w.heap.size w w') => open_log d mb c f M st fu w' ((hb.block _ hd.lt).trans hd) ((hb.block _ (heap_lt hm)).trans hm) hfo)
  have HST := Lib.hid (fun (p bb : Nat) (w' : World) (hb : Below w.heap.size w w') (q1 : w'.heap[p]? = some (.cells #[.pointer (some ⟨f, 0, none⟩)] 55 (0, 0))) (q2 : w'.heap[bb]? = some (.cells #[.int .i64 (z : Int)] 3 (0, 0))) =>
    cut_step base p bb d mb f z M st fu S D w' (Nat.le_trans hbs hb.size) q1 q2 (h.later hb) (hf.later hb) hD hfit hsm)
  have HF := Lib.hid hf.at
  have hzz : z ≤ 4294967296 := by
    have h1 := afterZ_length D S (unitsD D : Nat)
    have h2 := hf.2.2
    unfold allB at hz
    omega
  obtain ⟨L, hL⟩ : ∃ L, L = (allB S D).length := ⟨_, rfl⟩
  rw [← hL] at hz
  have HLL := Lib.hid hL
  clear hfo hfit' h hd hm hf hL hfit hsm hD
  have hb1 : Below w.heap.size w (w.alloc (.cells #[.int .i64 (z : Int)] 3)) := (Below.refl _ _).alloc (Nat.le_refl _) _
  have hx1 := heap_alloc_new w (.cells #[.int .i64 (z : Int)] 3)
  have hs1 : (w.alloc (.cells #[.int .i64 (z : Int)] 3)).heap.size = w.heap.size + 1 := by simp
  have HX1 := Lib.hid (And.intro hb1 (And.intro hx1 hs1))
  clear hb1 hx1 hs1
  have hz0 : (0 : Int) ≤ (z : Int) := by omega
  have hz1 : ¬ ((z : Int) < 0) := by omega
  have hz2 : ¬ ((L : Int) < (z : Int)) := by omega
  go_enter Try.func32, Try.ntmps32
  go_wp2_with fail
  refine (HO.out _ HX1.out.1).mono ?_
  rintro e w' ⟨rfl, rfl⟩
  go_wp2_with fail
  have hx2 := heap_alloc_new (w.alloc (.cells #[.int .i64 (z : Int)] 3)) (.cells #[.pointer (some ⟨f, 0, none⟩)] 55)
  rw [HX1.out.2.2] at hx2
  have hb2 : Below w.heap.size w ((w.alloc (.cells #[.int .i64 (z : Int)] 3)).alloc (.cells #[.pointer (some ⟨f, 0, none⟩)] 55)) := HX1.out.1.alloc HX1.out.1.size _
  have hx3 : ((w.alloc (.cells #[.int .i64 (z : Int)] 3)).alloc (.cells #[.pointer (some ⟨f, 0, none⟩)] 55)).heap[w.heap.size]? = some (.cells #[.int .i64 (z : Int)] 3 (0, 0)) := (Below.heap_alloc _ _ _ (by rw [HX1.out.2.2]; omega)).trans HX1.out.2.1
  obtain ⟨N, hN⟩ : ∃ N, N = w.heap.size := ⟨_, rfl⟩
  rw [← hN] at hx2 hx3 ⊢
  generalize ((w.alloc (.cells #[.int .i64 (z : Int)] 3)).alloc (.cells #[.pointer (some ⟨f, 0, none⟩)] 55)) = X at hx2 hb2 hx3 ⊢
  have HXX := Lib.hid (And.intro hb2 (And.intro hx2 hx3))
  have y0 : X.cell? ⟨N, 0, none⟩ = some (.int .i64 (z : Int)) := cell_of_row _ _ _ _ _ _ hx3
  have y1 : X.cell? ⟨N + 1, 0, none⟩ = some (.pointer (some ⟨f, 0, none⟩)) := cell_of_row _ _ _ _ _ _ hx2
  have HFX := Lib.hid (HF.out.later hb2)
  clear hb2 hx2 hx3 HX1 hN
  have hgd : decide ((z : Int) < 0) = false := by simp
  go_region_held3 (fun w' => w'.cell? ⟨N, 0, none⟩ = some (.int .i64 (z : Int)) ∧ w'.cell? ⟨N + 1, 0, none⟩ = some (.pointer (some ⟨f, 0, none⟩)) ∧ Below X.heap.size X w')
    (first
      | (exact ⟨y0, y1, (Below.refl _ _).drew⟩)
      | (exact ⟨(hb2.cell (block_lt_of_cell y0)).trans y0, (hb2.cell (block_lt_of_cell y1)).trans y1, hb2⟩)
      | (go_split_ands; assumption))
    (first
      | (go_at_call 25
         go_split_ands
         refine (bytes_any f S D _ (HFX.out.later (by assumption))).mono ?_
         rintro e w2 ⟨v, rfl, hown, hb1⟩
         have hb2 : Below X.heap.size X w2 := Below.trans (by assumption) (hb1.mono (Below.size (by assumption)))
         obtain ⟨av, cv, hv, _⟩ := hown.bytes
         rw [← HLL.out] at hv
         subst hv))
  all_goals
    go_split_ands
    have hb2 : Below X.heap.size X w2 := by assumption
    have HB2 := Lib.hid hb2
    clear hb2
    go_wp2_with fail
    have hw2 : Below w.heap.size w w2 := HXX.out.1.trans (HB2.out.mono HXX.out.1.size)
    refine (HST.out (N + 1) N w2 hw2 ((HB2.out.block _ (heap_lt HXX.out.2.1)).trans HXX.out.2.1) ((HB2.out.block _ (heap_lt HXX.out.2.2)).trans HXX.out.2.2)).mono ?_
    rintro e w' ⟨y, rfl, hl, hmv⟩
    have HRES := Lib.hid (And.intro hl ((Moved.of_below hw2 HF.out.lt).trans hmv))
    clear hl hmv hw2
    go_wp2_with fail
    go_ret
    exact ⟨y, rfl, HRES.out.1, HRES.out.2⟩
end Go.Proofs.Ytgbpgmbnihfkkaa

/- disk: a file's bytes, in plain words -/
namespace Go.Proofs.Ytgbpgmbnihfkkaa
/-- bytes behind deeds. -/
def runD : List UInt8 → List Deed → List UInt8
  | b, [] => b
  | b, .more x :: D => runD (b ++ x) D
  | b, .cut n :: D => runD (b.take n) D
theorem units_zero : ∀ (D : List Deed) (S : List UInt8), unitsD D = 0 → runD S D = S
  | [], _, _ => rfl
  | .more x :: D, S, h => by
    have h1 : x.length + unitsD D = 0 := by simpa [unitsD, Deed.units] using h
    have hx : x = [] := List.eq_nil_of_length_eq_zero (by omega)
    subst hx
    simp [runD, units_zero D S (by omega)]
  | .cut n :: D, S, h => by
    simp [unitsD, Deed.units] at h
theorem allB_run : ∀ (D : List Deed) (S : List UInt8), allB S D = runD S D
  | [], _ => rfl
  | .more x :: D, S => by
    have hu : unitsD (.more x :: D) = x.length + unitsD D := by simp [unitsD, Deed.units]
    by_cases h : unitsD (.more x :: D) = 0
    · rw [units_zero _ _ h]
      unfold allB
      exact afterZ_stop _ _ _ (by omega)
    · unfold allB
      rw [afterZ_more _ _ _ (by omega), hu]
      have e1 : (min ((x.length + unitsD D : Nat) : Int) (x.length : Int)).toNat = x.length := by omega
      have e2 : ((x.length + unitsD D : Nat) : Int) - (x.length : Int) = (unitsD D : Nat) := by omega
      rw [e1, e2, List.take_of_length_le (Nat.le_refl _)]
      exact allB_run D (S ++ x)
  | .cut n :: D, S => by
    have hu : unitsD (.cut n :: D) = 1 + unitsD D := by simp [unitsD, Deed.units]
    unfold allB
    rw [afterZ_cut _ _ _ (by omega), hu]
    have e2 : ((1 + unitsD D : Nat) : Int) - 1 = (unitsD D : Nat) := by omega
    rw [e2]
    exact allB_run D (S.take n)
theorem runD_append : ∀ (D E : List Deed) (S : List UInt8), runD S (D ++ E) = runD (runD S D) E
  | [], _, _ => rfl
  | .more x :: D, E, S => runD_append D E (S ++ x)
  | .cut n :: D, E, S => runD_append D E (S.take n)
theorem fits_cut : ∀ (D : List Deed) (S : List UInt8) (z : Nat), fitsD S D → z ≤ (runD S D).length → fitsD S (D ++ [.cut z])
  | [], _, _, _, hz => ⟨hz, trivial⟩
  | .more x :: D, S, z, h, hz => fits_cut D (S ++ x) z h hz
  | .cut n :: D, S, z, h, hz => ⟨h.1, fits_cut D (S.take n) z h.2 hz⟩
theorem unitsD_append (D E : List Deed) : unitsD (D ++ E) = unitsD D + unitsD E := by simp [unitsD]
theorem unitsD_laid (D : List Deed) (n : Nat) (B : List UInt8) (h : B.length = n) : unitsD (laid D n B) = unitsD D + n := by
  unfold laid
  split
  · omega
  · rw [unitsD_append]; simp [unitsD, Deed.units, h]
theorem runD_laid (S : List UInt8) (D : List Deed) (n : Nat) (B : List UInt8) (h : B.length = n) : runD S (laid D n B) = runD S D ++ B := by
  unfold laid
  split
  · rw [List.eq_nil_of_length_eq_zero (by omega : B.length = 0), List.append_nil]
  · rw [runD_append]; rfl
theorem laid_length (D : List Deed) (n : Nat) (B : List UInt8) : (laid D n B).length ≤ D.length + 1 := by
  unfold laid
  split <;> simp
theorem sum_units (D : List Deed) : (D.map Deed.units).sum = unitsD D := rfl
end Go.Proofs.Ytgbpgmbnihfkkaa
