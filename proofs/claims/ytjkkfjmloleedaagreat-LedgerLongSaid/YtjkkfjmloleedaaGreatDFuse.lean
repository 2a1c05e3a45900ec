/- disk: Append to a file that is there -/
import Derived.Test.YtjkkfjmloleedaaGreatDApp4
namespace Go.Proofs.YtjkkfjmloleedaaGreat
open Go.RowKit
set_option linter.unusedSectionVars false
variable [Zone]
variable {nm : ByteArray}
/-- the memory of Append where the file is there. -/
theorem app_old (f N : Nat) {w1 : World} (hs : w1.heap.size = N + 3) (X : World) (h : (w1.alloc (.cells #[.pointer (some ⟨f, 0, none⟩)] 82)).drew = X) :
    X.heap[N + 3]? = some (.cells #[.pointer (some ⟨f, 0, none⟩)] 82 (0, 0)) ∧ Below w1.heap.size w1 X := by
  subst h
  refine ⟨?_, ((Below.refl _ _).alloc (Nat.le_refl _) _).drew⟩
  rw [← hs]
  exact heap_alloc_new _ _
set_option maxRecDepth 100000 in
theorem Append_log (base d mb f : Nat) (M : List Ent) (st fu : Int) (S : List UInt8) (D : List Deed) (ao : Option Addr) (n cap : Nat) (B : List UInt8) (w : World) (hbs : base ≤ w.heap.size) (hnf : nameP nm.data.toList = true) (h : DiskM w st fu false d mb M) (hfo : fileOf nm M = some f) (hf : FileOwn w f base S D) (hB : IsBytes w ao n cap B) (hz : ZW w) (hn : n + (allB S D).length ≤ 1048576) (hDl : D.length ≤ 1000000) (hsm : S.length + ((D ++ [Deed.more B]).map Deed.units).sum ≤ 4294967296) :
    Calls Tryz.prog 20 #[.pointer (some ⟨d, 0, none⟩), .string nm, .slice ao n cap] w fun e w' => ∃ z, e = .returned (.int .i64 z) ∧ Stepped fu z (DiskM w' st fu true d mb M ∧ FileOwn w' f base S D) (DiskM w' (wrap64 (st + 1)) (dec fu) false d mb M ∧ FileOwn w' f base S (laid D n B)) ∧ Moved d mb f w w' := by
  have HDM := Lib.hid h
  obtain ⟨hfx, hmd, hd, c, hfit, hm⟩ := h
  have HF := Lib.hid hf
  have HDL := Lib.hid hDl
  have HSM := Lib.hid hsm
  have h0 := hd.cells.1
  have HNF := Lib.hid hnf
  have HFO := Lib.hid hfo
  have HZ := Lib.hid hz
  have HD := Lib.hid hd
  have HM := Lib.hid hm
  have HB := Lib.hid hB
  clear hfx hmd hd hm hB hfit hnf hfo hf hDl hsm hz
  go_enter Tryz.func20, Tryz.ntmps20
  go_wp2_with fail
  generalize hw1 : ((w.alloc (.cells #[.pointer (some ⟨d, 0, none⟩)] 24)).alloc (.cells #[.string nm] 9)).alloc (.cells #[.slice ao n cap] 36) = w1
  obtain ⟨b0, b1, b2, hB1, hS1⟩ := app_boxes d nm _ w w1 hw1
  clear hw1
  generalize hN : w.heap.size = N at b0 b1 b2 hS1 hbs ⊢
  have HD1 : Hid (DiskRow w1 d mb st fu false) := Lib.hid ((hB1.block _ HD.out.lt).trans HD.out)
  have HM1 : Hid (w1.heap[mb]? = some (.map (ents M) c)) := Lib.hid ((hB1.block _ (heap_lt HM.out)).trans HM.out)
  have h1 := HD1.out.cells.1
  have c0 : w1.cell? ⟨N, 0, none⟩ = some (.pointer (some ⟨d, 0, none⟩)) := cell_of_row _ _ _ _ _ _ b0
  have c1 : w1.cell? ⟨N + 1, 0, none⟩ = some (.string nm) := cell_of_row _ _ _ _ _ _ b1
  have c2 : w1.cell? ⟨N + 1 + 1, 0, none⟩ = some (.slice ao n cap) := cell_of_row _ _ _ _ _ _ b2
  have hlk : (Instr.lookup 43 (.map (some mb)) (.string nm) false).run Tryz.prog (w1.alloc (.cells #[.pointer none] 82)).drew = .ok (.pointer (some ⟨f, 0, none⟩)) (w1.alloc (.cells #[.pointer none] 82)).drew := by
    exact look_log _ mb c M ((Below.heap_alloc w1 (.cells #[.pointer none] 82) mb (heap_lt HM1.out)).trans HM1.out) HFO.out
  have hlk2 : (Instr.lookup 43 (.map (some mb)) (.string nm) false).run Tryz.prog w1.drew = .ok (.pointer (some ⟨f, 0, none⟩)) w1.drew := by
    exact look_log w1.drew mb c M HM1.out HFO.out
  have h1a : (w1.alloc (.cells #[.pointer none] 82)).cell? ⟨d, 0, none⟩ = some (.map (some mb)) := (World.cell?_of_block (w := w1) (Below.heap_alloc w1 _ d HD1.out.lt)).trans h1
  have HB0 := Lib.hid b0
  have HB1 := Lib.hid b1
  have HB2 := Lib.hid b2
  have HBL := Lib.hid hB1
  clear b0 b1 b2 hB1
  refine (down_any d mb st fu w1 HD1.out).mono ?_
  rintro e w' ⟨rfl, rfl⟩
  go_wp2_with fail
  go_region
  all_goals
    go_wp2_with fail
    refine (named_log _ HNF.out).mono ?_
    rintro e w' ⟨rfl, rfl⟩
    go_wp2_with fail
    generalize hX : ((w1.alloc (.cells #[.pointer (some ⟨f, 0, none⟩)] 82)).drew : World) = X
    obtain ⟨x3, xb⟩ := app_old f N hS1 X hX
    have x0 := (xb.block N (by omega)).trans HB0.out
    have x1 := (xb.block (N + 1) (by omega)).trans HB1.out
    have x2 := (xb.block (N + 1 + 1) (by omega)).trans HB2.out
    have hbX : Below w.heap.size w X := HBL.out.trans (xb.mono HBL.out.size)
    have hfX : FileOwn X f base S D := HF.out.later hbX
    have HXX := Lib.hid (And.intro x0 (And.intro x1 (And.intro x2 x3)))
    have HX := Lib.hid (And.intro hbX (And.intro trivial (And.intro trivial hfX)))
    have y2 : X.cell? ⟨N + 1 + 1, 0, none⟩ = some (.slice ao n cap) := cell_of_row _ _ _ _ _ _ x2
    have y3 : X.cell? ⟨N + 3, 0, none⟩ = some (.pointer (some ⟨f, 0, none⟩)) := cell_of_row _ _ _ _ _ _ x3
    clear x0 x1 x2 x3 xb hbX hfX hX hlk hlk2 h1a c0 c1 c2 h1 HB0 HB1 HB2 HD1 HM1 hS1
    obtain ⟨L, hL⟩ : ∃ L, L = (allB S D).length := ⟨_, rfl⟩
    have hLn : n + L ≤ 1048576 := by rw [hL]; exact hn
    have HL := Lib.hid hL
    clear hL
    have hwr : IntKind.i64.wrap (1048576 - (L : Int)) = 1048576 - (L : Int) := IntWalk.i64_in _ (by omega)
    have hcm : ¬ (1048576 - (L : Int) < (n : Int)) := by omega
    go_region_held3 (fun w' => w'.cell? ⟨N + 1 + 1, 0, none⟩ = some (.slice ao n cap) ∧ w'.cell? ⟨N + 3, 0, none⟩ = some (.pointer (some ⟨f, 0, none⟩)) ∧ Below X.heap.size X w')
      (first
        | (exact ⟨y2, y3, (Below.refl _ _).drew⟩)
        | (exact ⟨(hb2.cell (block_lt_of_cell y2)).trans y2, (hb2.cell (block_lt_of_cell y3)).trans y3, hb2⟩)
        | (go_split_ands; assumption))
      (first
        | (go_at_call 58
           go_split_ands
           refine (bytes_any f S D _ (HX.out.2.2.2.at.later (by assumption))).mono ?_
           rintro e w2 ⟨v, rfl, hown, hb1⟩
           have hb2 : Below X.heap.size X w2 := Below.trans (by assumption) (hb1.mono (Below.size (by assumption)))
           obtain ⟨av, cv, hv, _⟩ := hown.bytes
           rw [← HL.out] at hv
           subst hv))
    all_goals
      go_split_ands
      have hb2 : Below X.heap.size X w2 := by assumption
      have z0 : w2.cell? ⟨N, 0, none⟩ = some (.pointer (some ⟨d, 0, none⟩)) := cell_of_row _ _ _ _ _ _ ((hb2.block _ (heap_lt HXX.out.1)).trans HXX.out.1)
      have HB2 := Lib.hid hb2
      clear hb2
      go_wp2_with fail
      have hw2 : Below w.heap.size w w2 := HX.out.1.trans (HB2.out.mono HX.out.1.size)
      refine (app_step base (N + 3) N (N + 1) (N + 1 + 1) d mb f M st fu S D ao n cap B w2 (Nat.le_trans (by omega) hw2.size) ((HB2.out.block _ (heap_lt HXX.out.2.2.2)).trans HXX.out.2.2.2) ((HB2.out.block _ (heap_lt HXX.out.1)).trans HXX.out.1)
        ((HB2.out.block _ (heap_lt HXX.out.2.1)).trans HXX.out.2.1) ((HB2.out.block _ (heap_lt HXX.out.2.2.1)).trans HXX.out.2.2.1) (HDM.out.later hw2) (.inl HFO.out) (HX.out.2.2.2.later HB2.out) (HB.out.later hw2) (HZ.out.mono hw2.size) (by omega) HDL.out HSM.out).mono ?_
      rintro e w' ⟨z, rfl, hl, hmv⟩
      have HRES : Hid (Stepped fu z (DiskM w' st fu true d mb M ∧ FileOwn w' f base S D) (DiskM w' (wrap64 (st + 1)) (dec fu) false d mb M ∧ FileOwn w' f base S (laid D n B)) ∧ Moved d mb f w w') := Lib.hid ⟨by
        rcases hl with ⟨q1, q2, q3⟩ | ⟨q1, q2, M', hpt, q3, q4⟩
        · exact .inl ⟨q1, q2, q3⟩
        · rcases hpt with ⟨_, rfl⟩ | ⟨p1, _⟩
          · exact .inr ⟨q1, q2, q3, q4⟩
          · (rw [HFO.out] at p1; cases p1), (Moved.of_below hw2 HF.out.at.lt).trans hmv⟩
      clear hl hmv hw2
      go_wp2_with fail
      go_ret
      exact ⟨z, rfl, HRES.out.1, HRES.out.2⟩
end Go.Proofs.YtjkkfjmloleedaaGreat

/- disk: Cut, Loose -/
namespace Go.Proofs.YtjkkfjmloleedaaGreat
open Go.RowKit
set_option linter.unusedSectionVars false
variable [Zone]
variable {nm : ByteArray}
theorem cutS {W w' : World} {p bb f base : Nat} {bv sv lv : Value} {D : List Deed} (hp : W.heap[p]? = some (.cells #[.pointer (some ⟨f, 0, none⟩)] 82 (0, 0))) (hbb : W.heap[bb]? = some (.cells #[bv] 3 (0, 0)))
    (hr : FileRow W f sv lv) (ho : OwnD W base lv D) (hg : W.grownBy w' lv.ownBlock) : AppS p bb f bv w' ∧ (∀ u, AppS p bb f bv (w'.setCell ⟨f, 1, none⟩ u)) ∧ w'.cell? ⟨f, 1, none⟩ = some lv := by
  have h1 := (hg.block p (heap_lt hp) (ho.ne hp (by decide))).trans hp
  have h2 := (hg.block bb (heap_lt hbb) (ho.ne hbb (by decide))).trans hbb
  have h3 : w'.heap[f]? = some (.cells #[sv, lv] 92 (0, 0)) := (hg.block f (heap_lt hr) (ho.ne hr (by decide))).trans hr
  have n1 : p ≠ f := by rintro rfl; rw [h1] at h3; cases h3
  have n2 : bb ≠ f := by rintro rfl; rw [h2] at h3; cases h3
  refine ⟨⟨cell_of_row _ _ _ _ _ _ h1, cell_of_row _ _ _ _ _ _ h2, frozen_of_row _ _ _ _ _ h3⟩, fun u => ⟨cell_of_row _ _ _ _ _ _ ((Below.heap_setCell _ _ _ _ n1).trans h1), cell_of_row _ _ _ _ _ _ ((Below.heap_setCell _ _ _ _ n2).trans h2), frozen_of_row _ _ _ _ _ (heap_setCell_same w' f 1 _ _ u h3)⟩, cell_of_row _ _ _ _ _ _ h3⟩
set_option maxRecDepth 100000 in
set_option maxHeartbeats 2000000 in
theorem CutDo_any (base p bb d mb f z : Nat) (M : List Ent) (st fu : Int) (S : List UInt8) (D : List Deed) (W : World) (hbs : base ≤ W.heap.size)
    (hp : W.heap[p]? = some (.cells #[.pointer (some ⟨f, 0, none⟩)] 82 (0, 0))) (hbb : W.heap[bb]? = some (.cells #[.int .i64 (z : Int)] 3 (0, 0)))
    (hd : DiskRow W d mb st fu false) (hm : MapHas W mb M) (hf : FileOwn W f base S D) (hD : D.length ≤ 1000000)
    (hfit : fitsD S (D ++ [Deed.cut z])) (hsm : S.length + ((D ++ [Deed.cut z]).map Deed.units).sum ≤ 4294967296) :
    Calls Tryz.prog 67 #[.pointer (some ⟨p, 0, none⟩), .pointer (some ⟨bb, 0, none⟩)] W
      fun e w' => e = .returned (.tuple #[]) ∧ DiskRow w' d mb st fu false ∧ MapHas w' mb M ∧ FileOwn w' f base S (D ++ [Deed.cut z]) ∧ Moved d mb f W w' := by
  obtain ⟨⟨ao2, n2, cap2, lv, hr, hs, hl⟩, _, _⟩ := hf
  have HS := Lib.hid (fun (w' : World) (hg : W.grownBy w' lv.ownBlock) => cutS hp hbb hr hl hg)
  have HE := Lib.hid (fun (w' : World) (v' : Value) (hg : W.grownBy w' lv.ownBlock) (ho' : OwnD w' base v' (D ++ [Deed.cut z])) (hrw : ∀ k, v'.ownBlock = some k → lv.ownBlock = some k ∨ W.heap.size ≤ k) => app_end hr hs hl hd hm hg ho' hrw hfit hsm)
  have HLEN : Hid ((D ++ [Deed.cut z]).length = D.length + 1) := Lib.hid (by simp)
  have hf1 : W.cell? ⟨f, 1, none⟩ = some lv := cell_of_row _ _ _ _ _ _ hr
  have hf2 : ∀ o, (W.drew.alloc o).cell? ⟨f, 1, none⟩ = some lv := fun o => ((((Below.refl W.heap.size W).drew).alloc (Nat.le_refl _) o).cell (block_lt_of_cell hf1)).trans hf1
  have hf3 : ∀ o, (W.alloc o).cell? ⟨f, 1, none⟩ = some lv := fun o => ((((Below.refl W.heap.size W)).alloc (Nat.le_refl _) o).cell (block_lt_of_cell hf1)).trans hf1
  have HL := Lib.hid hl
  have HD := Lib.hid hD
  have HBW := Lib.hid hbs
  clear hd hm hbb hp hfit hsm hr hs hl hD hbs
  go_enter Tryz.func67, Tryz.ntmps67
  go_wp2_with fail
  refine wp_region_held_drew (S := fun w' => w'.cell? ⟨p, 0, none⟩ = some (.pointer (some ⟨f, 0, none⟩)) ∧ w'.cell? ⟨bb, 0, none⟩ = some (.int .i64 (z : Int)) ∧ w'.frozen? ⟨f, 1, none⟩ = false) (by kernel_rfl) ?hS0 (fun hHeld => ?_)
  case hS0 => (exact (HS.out _ (below_grownBy (Below.refl _ _).drew _)).1)
  refine wpAnyH_take (i := 0) (v := ?v1) rfl (by kernel_rfl) (by kernel_rfl) (by kernel_rfl) (fun _ _ _ h => h) (Or.inl ⟨?hw1, ?hy1⟩) (by assumption) ?_
  case hw1 => rfl
  case hy1 => (intro w hSw; (try dsimp only at hSw); go_simp; (first | done | with_reducible rfl))
  try simp only [Act.put, List.setIfInBounds_toArray]
  refine wpAnyH_take (i := 1) (v := ?v2) rfl (by kernel_rfl) (by kernel_rfl) (by kernel_rfl) (fun _ _ _ h => h) (Or.inl ⟨?hw2, ?hy2⟩) (by assumption) ?_
  case hw2 => rfl
  case hy2 => (intro w hSw; (try dsimp only at hSw); go_simp; (first | done | with_reducible rfl))
  try simp only [Act.put]
  refine wpAnyH_take (i := 2) (v := ?v3) rfl (by kernel_rfl) (by kernel_rfl) (by kernel_rfl) (fun _ _ _ h => h) (Or.inl ⟨?hw3, ?hy3⟩) (by assumption) ?_
  case hw3 => rfl
  case hy3 => (intro w hSw; (try dsimp only at hSw); go_simp; (first | done | with_reducible rfl))
  try simp only [Act.put]
  refine wpAnyH_take (i := 3) (v := ?v4) rfl (by kernel_rfl) (by kernel_rfl) (by kernel_rfl) (fun _ _ _ h => h) (Or.inl ⟨?hw4, ?hy4⟩) (by assumption) ?_
  case hw4 => rfl
  case hy4 => (intro w hSw; (try dsimp only at hSw); go_simp; (first | done | with_reducible rfl))
  try simp only [Act.put]
  refine wpAnyH_take (i := 5) (v := ?v5) rfl (by kernel_rfl) (by kernel_rfl) (by kernel_rfl) (fun _ _ _ h => h) (Or.inl ⟨?hw5, ?hy5⟩) (by assumption) ?_
  case hw5 => rfl
  case hy5 => (intro w hSw; (try dsimp only at hSw); go_simp; (first | done | with_reducible rfl))
  try simp only [Act.put]
  refine wpAnyH_take (i := 6) (v := ?v6) rfl (by kernel_rfl) (by kernel_rfl) (by kernel_rfl) (fun _ _ _ h => h) (Or.inl ⟨?hw6, ?hy6⟩) (by assumption) ?_
  case hw6 => rfl
  case hy6 => (intro w hSw; (try dsimp only at hSw); go_simp; (first | done | with_reducible rfl))
  try simp only [Act.put]
  refine wpAnyH_ready (rs := [4, 7]) (by kernel_rfl) (by simp) ?_
  refine AllReadyH.cons (o := _) rfl (fun K hK => ?step7) ?_
  case step7 =>
    go_simp
    refine hK.out _ _ ?hS7 (fun hHeld => ?_)
    case hS7 => (first | (exact (HS.out _ (below_grownBy (Below.refl _ _).drew _)).1) | (exact (HS.out _ hgn).1) | (exact (HS.out _ hgn).2.1 _) | (exact (HS.out _ (below_grownBy (((Below.refl _ _).drew).alloc (Nat.le_refl _) _) _)).1))
    clear hK K
    try simp only [Act.put, List.setIfInBounds_toArray, List.set_cons_zero, List.set_cons_succ]
    refine wpAnyH_ready (rs := [7]) (by kernel_rfl) (by simp) ?_
    refine AllReadyH.cons (o := _) rfl (fun K hK => ?step8) ?_
    case step8 =>
      go_simp
      refine hK.out _ _ ?hS8 (fun hHeld => ?_)
      case hS8 => (first | (exact (HS.out _ (below_grownBy (Below.refl _ _).drew _)).1) | (exact (HS.out _ hgn).1) | (exact (HS.out _ hgn).2.1 _) | (exact (HS.out _ (below_grownBy (((Below.refl _ _).drew).alloc (Nat.le_refl _) _) _)).1))
      clear hK K
      try simp only [Act.put, List.setIfInBounds_toArray, List.set_cons_zero, List.set_cons_succ]
      refine wpAnyH_ready (rs := [8]) (by kernel_rfl) (by simp) ?_
      refine AllReadyH.cons (o := _) rfl (fun K hK => ?step9) ?_
      case step9 =>
        rw [if_pos (by rfl)]
        have hbW : Below W.heap.size W (W.drew.alloc (.cells #[.iface 100 (.int .i64 (z : Int))] 114)) := ((Below.refl _ _).drew).alloc (Nat.le_refl _) _
        refine opwp_append_deed _ _ rfl base lv D rfl (HL.out.later hbW) W.heap.size 1 rfl (.iface 100 (.int .i64 (z : Int))) (.cut z) (cell_of_row _ _ _ _ _ _ (heap_alloc_new _ _)) rfl trivial HD.out (Nat.le_trans HBW.out hbW.size) ?_
        intro v2 w2 ho2 hg2 hrw2
        have HRW : Hid (∀ k, v2.ownBlock = some k → lv.ownBlock = some k ∨ W.heap.size ≤ k) := Lib.hid (fun k hk => (hrw2 k hk).imp id (Nat.le_trans hbW.size))
        clear hrw2
        have hgn : W.grownBy w2 lv.ownBlock := grownBy_trans (below_grownBy hbW _) hg2
        obtain ⟨al2, cl2, hv2, _⟩ := ho2.deeds
        rw [HLEN.out] at hv2
        subst hv2
        have HO2 := Lib.hid ho2
        have hf1c := (HS.out _ hgn).2.2
        clear ho2
        refine hK.out _ _ ?hS9 (fun hHeld => ?_)
        case hS9 => (first | (exact (HS.out _ (below_grownBy (Below.refl _ _).drew _)).1) | (exact (HS.out _ hgn).1) | (exact (HS.out _ hgn).2.1 _) | (exact (HS.out _ (below_grownBy (((Below.refl _ _).drew).alloc (Nat.le_refl _) _) _)).1))
        clear hK K
        try simp only [Act.put, List.setIfInBounds_toArray]
        refine wpAnyH_take (i := 9) (v := ?v10) rfl (by kernel_rfl) (by kernel_rfl) (by kernel_rfl) (fun _ _ _ h => h) (Or.inl ⟨?hw10, ?hy10⟩) (by assumption) ?_
        case hw10 => rfl
        case hy10 => (intro w hSw; (try dsimp only at hSw); go_simp; (first | done | with_reducible rfl))
        try simp only [Act.put]
        refine wpAnyH_take (i := 10) (v := ?v11) rfl (by kernel_rfl) (by kernel_rfl) (by kernel_rfl) (fun _ _ _ h => h) (Or.inl ⟨?hw11, ?hy11⟩) (by assumption) ?_
        case hw11 => rfl
        case hy11 => (intro w hSw; (try dsimp only at hSw); go_simp; (first | done | with_reducible rfl))
        try simp only [Act.put]
        refine wpAnyH_ready (rs := [11]) (by kernel_rfl) (by simp) ?_
        refine AllReadyH.cons (o := _) rfl (fun K hK => ?step12) ?_
        case step12 =>
          go_simp
          refine hK.out _ _ ?hS12 (fun hHeld => ?_)
          case hS12 => (first | (exact (HS.out _ (below_grownBy (Below.refl _ _).drew _)).1) | (exact (HS.out _ hgn).1) | (exact (HS.out _ hgn).2.1 _) | (exact (HS.out _ (below_grownBy (((Below.refl _ _).drew).alloc (Nat.le_refl _) _) _)).1))
          clear hK K
          try simp only [Act.put, List.setIfInBounds_toArray, List.set_cons_zero, List.set_cons_succ]
          refine wpAnyH_done (by kernel_rfl) ?_ _
          go_wp2_with fail
          go_end0
          obtain ⟨e1, e2, e3, e4⟩ := HE.out w2 _ hgn HO2.out HRW.out
          exact ⟨rfl, e1, e2, e3, e4⟩
        exact AllReadyH.nil
      exact AllReadyH.nil
    exact AllReadyH.nil
  refine AllReadyH.cons (o := _) rfl (fun K hK => ?step13) ?_
  case step13 =>
    go_simp
    refine hK.out _ _ ?hS13 (fun hHeld => ?_)
    case hS13 => (first | (exact (HS.out _ (below_grownBy (Below.refl _ _).drew _)).1) | (exact (HS.out _ hgn).1) | (exact (HS.out _ hgn).2.1 _) | (exact (HS.out _ (below_grownBy (((Below.refl _ _).drew).alloc (Nat.le_refl _) _) _)).1))
    clear hK K
    try simp only [Act.put, List.setIfInBounds_toArray, List.set_cons_zero, List.set_cons_succ]
    refine wpAnyH_ready (rs := [4]) (by kernel_rfl) (by simp) ?_
    refine AllReadyH.cons (o := _) rfl (fun K hK => ?step14) ?_
    case step14 =>
      go_simp
      refine hK.out _ _ ?hS14 (fun hHeld => ?_)
      case hS14 => (first | (exact (HS.out _ (below_grownBy (Below.refl _ _).drew _)).1) | (exact (HS.out _ hgn).1) | (exact (HS.out _ hgn).2.1 _) | (exact (HS.out _ (below_grownBy (((Below.refl _ _).drew).alloc (Nat.le_refl _) _) _)).1))
      clear hK K
      try simp only [Act.put, List.setIfInBounds_toArray, List.set_cons_zero, List.set_cons_succ]
      refine wpAnyH_ready (rs := [8]) (by kernel_rfl) (by simp) ?_
      refine AllReadyH.cons (o := _) rfl (fun K hK => ?step15) ?_
      case step15 =>
        rw [if_pos (by rfl)]
        have hbW : Below W.heap.size W (W.drew.alloc (.cells #[.iface 100 (.int .i64 (z : Int))] 114)) := ((Below.refl _ _).drew).alloc (Nat.le_refl _) _
        refine opwp_append_deed _ _ rfl base lv D rfl (HL.out.later hbW) W.heap.size 1 rfl (.iface 100 (.int .i64 (z : Int))) (.cut z) (cell_of_row _ _ _ _ _ _ (heap_alloc_new _ _)) rfl trivial HD.out (Nat.le_trans HBW.out hbW.size) ?_
        intro v2 w2 ho2 hg2 hrw2
        have HRW : Hid (∀ k, v2.ownBlock = some k → lv.ownBlock = some k ∨ W.heap.size ≤ k) := Lib.hid (fun k hk => (hrw2 k hk).imp id (Nat.le_trans hbW.size))
        clear hrw2
        have hgn : W.grownBy w2 lv.ownBlock := grownBy_trans (below_grownBy hbW _) hg2
        obtain ⟨al2, cl2, hv2, _⟩ := ho2.deeds
        rw [HLEN.out] at hv2
        subst hv2
        have HO2 := Lib.hid ho2
        have hf1c := (HS.out _ hgn).2.2
        clear ho2
        refine hK.out _ _ ?hS15 (fun hHeld => ?_)
        case hS15 => (first | (exact (HS.out _ (below_grownBy (Below.refl _ _).drew _)).1) | (exact (HS.out _ hgn).1) | (exact (HS.out _ hgn).2.1 _) | (exact (HS.out _ (below_grownBy (((Below.refl _ _).drew).alloc (Nat.le_refl _) _) _)).1))
        clear hK K
        try simp only [Act.put, List.setIfInBounds_toArray]
        refine wpAnyH_take (i := 9) (v := ?v16) rfl (by kernel_rfl) (by kernel_rfl) (by kernel_rfl) (fun _ _ _ h => h) (Or.inl ⟨?hw16, ?hy16⟩) (by assumption) ?_
        case hw16 => rfl
        case hy16 => (intro w hSw; (try dsimp only at hSw); go_simp; (first | done | with_reducible rfl))
        try simp only [Act.put]
        refine wpAnyH_take (i := 10) (v := ?v17) rfl (by kernel_rfl) (by kernel_rfl) (by kernel_rfl) (fun _ _ _ h => h) (Or.inl ⟨?hw17, ?hy17⟩) (by assumption) ?_
        case hw17 => rfl
        case hy17 => (intro w hSw; (try dsimp only at hSw); go_simp; (first | done | with_reducible rfl))
        try simp only [Act.put]
        refine wpAnyH_ready (rs := [11]) (by kernel_rfl) (by simp) ?_
        refine AllReadyH.cons (o := _) rfl (fun K hK => ?step18) ?_
        case step18 =>
          go_simp
          refine hK.out _ _ ?hS18 (fun hHeld => ?_)
          case hS18 => (first | (exact (HS.out _ (below_grownBy (Below.refl _ _).drew _)).1) | (exact (HS.out _ hgn).1) | (exact (HS.out _ hgn).2.1 _) | (exact (HS.out _ (below_grownBy (((Below.refl _ _).drew).alloc (Nat.le_refl _) _) _)).1))
          clear hK K
          try simp only [Act.put, List.setIfInBounds_toArray, List.set_cons_zero, List.set_cons_succ]
          refine wpAnyH_done (by kernel_rfl) ?_ _
          go_wp2_with fail
          go_end0
          obtain ⟨e1, e2, e3, e4⟩ := HE.out w2 _ hgn HO2.out HRW.out
          exact ⟨rfl, e1, e2, e3, e4⟩
        exact AllReadyH.nil
      exact AllReadyH.nil
    exact AllReadyH.nil
  exact AllReadyH.nil
theorem enters_cut : ∀ args w, (callFunc 67 args).run Tryz.prog w = .ok (.enter 67 args) w := enters_of (hf := Tryz.func67) (hname := by kernel_rfl) (hb := rfl)
theorem cut_step (base p bb d mb f z : Nat) (M : List Ent) (st fu : Int) (S : List UInt8) (D : List Deed) (w : World) (hbs : base ≤ w.heap.size)
    (hp : w.heap[p]? = some (.cells #[.pointer (some ⟨f, 0, none⟩)] 82 (0, 0))) (hbb : w.heap[bb]? = some (.cells #[.int .i64 (z : Int)] 3 (0, 0)))
    (hdm : DiskM w st fu false d mb M) (hf : FileOwn w f base S D) (hD : D.length ≤ 1000000)
    (hfit : fitsD S (D ++ [Deed.cut z])) (hsm : S.length + ((D ++ [Deed.cut z]).map Deed.units).sum ≤ 4294967296) :
    Calls Tryz.prog 59 #[.pointer (some ⟨d, 0, none⟩), .func (.func 67) #[] #[.pointer (some ⟨p, 0, none⟩), .pointer (some ⟨bb, 0, none⟩)]] w
      fun e w' => ∃ y, e = .returned (.int .i64 y) ∧ Stepped fu y (DiskM w' st fu true d mb M ∧ FileOwn w' f base S D) (DiskM w' (wrap64 (st + 1)) (dec fu) false d mb M ∧ FileOwn w' f base S (D ++ [Deed.cut z])) ∧ Moved d mb f w w' := by
  have hd := hdm.2.2.1
  have hnd := hf.at.ne_disk hd
  refine (step_all d mb st fu _ _ M w hdm enters_cut (fun w' => (DiskM w' (wrap64 (st + 1)) (dec fu) false d mb M ∧ FileOwn w' f base S (D ++ [Deed.cut z])) ∧ Moved d mb f w w') (fun hfu => ?_)).mono ?_
  · have hmd := hdm.2.1
    have hne : ∀ {j : Nat} {v : Value} {t : TypeId} {fr : Nat × Nat}, w.heap[j]? = some (.cells #[v] t fr) → j ≠ d := by
      rintro j v t fr h rfl
      unfold DiskRow at hd
      rw [hd] at h
      cases h
    have hst : ∀ (j : Nat), j ≠ d → (stepW w d st fu).heap[j]? = w.heap[j]? := fun j hj => stepW_heap hj
    have hdm2 := hdm.stepped
    have hmv : Moved d mb f w (stepW w d st fu) := (Moved.refl _ _ _ _).stepW hnd
    refine (CutDo_any base p bb d mb f z M _ (dec fu) S D _ (by rw [stepW_size]; exact hbs) ((hst _ (hne hp)).trans hp) ((hst _ (hne hbb)).trans hbb) hdm2.2.2.1 hdm2.2.2.2 (hf.stepped hd) hD hfit hsm).mono ?_
    rintro e w' ⟨rfl, h1, h2, h3, h4⟩
    exact ⟨rfl, ⟨⟨hdm2.1, hmd, h1, h2⟩, h3⟩, hmv.trans h4⟩
  · rintro e w' ⟨y, rfl, ⟨h1, h2, rfl⟩ | ⟨h1, h2, q1, q2⟩⟩
    · exact ⟨y, rfl, .inl ⟨h1, h2, hdm.outed, hf.outed hd _ _⟩, (Moved.refl _ _ _ _).setCell_d hnd _ _⟩
    · exact ⟨y, rfl, .inr ⟨h1, h2, q1⟩, q2⟩
set_option maxRecDepth 100000 in
theorem Cut_any (base d mb f z : Nat) (M : List Ent) (st fu : Int) (S : List UInt8) (D : List Deed) (w : World) (hbs : base ≤ w.heap.size) (h : DiskM w st fu false d mb M) (hfo : fileOf nm M = some f) (hf : FileOwn w f base S D) (hz : z ≤ (allB S D).length) (hD : D.length ≤ 1000000)
    (hfit : fitsD S (D ++ [Deed.cut z])) (hsm : S.length + ((D ++ [Deed.cut z]).map Deed.units).sum ≤ 4294967296) :
    Calls Tryz.prog 22 #[.pointer (some ⟨d, 0, none⟩), .string nm, .int .i64 (z : Int)] w fun e w' => ∃ y, e = .returned (.int .i64 y) ∧ Stepped fu y (DiskM w' st fu true d mb M ∧ FileOwn w' f base S D) (DiskM w' (wrap64 (st + 1)) (dec fu) false d mb M ∧ FileOwn w' f base S (D ++ [Deed.cut z])) ∧ Moved d mb f w w' := by
  obtain ⟨c, hfit', hm⟩ := h.2.2.2
  have hd := h.2.2.1
  have HO := Lib.hid (fun (w' : World) (hb : Below w.heap.size w w') => open_log d mb c f M st fu w' ((hb.block _ hd.lt).trans hd) ((hb.block _ (heap_lt hm)).trans hm) hfo)
  have HST := Lib.hid (fun (p bb : Nat) (w' : World) (hb : Below w.heap.size w w') (q1 : w'.heap[p]? = some (.cells #[.pointer (some ⟨f, 0, none⟩)] 82 (0, 0))) (q2 : w'.heap[bb]? = some (.cells #[.int .i64 (z : Int)] 3 (0, 0))) =>
    cut_step base p bb d mb f z M st fu S D w' (Nat.le_trans hbs hb.size) q1 q2 (h.later hb) (hf.later hb) hD hfit hsm)
  have HF := Lib.hid hf.at
  have hzz : z ≤ 4294967296 := by
    have h1 := afterZ_length D S (unitsD D : Nat)
    have h2 := hf.2.2
    unfold allB at hz
    omega
  obtain ⟨L, hL⟩ : ∃ L, L = (allB S D).length := ⟨_, rfl⟩
  rw [← hL] at hz
  have HLL := Lib.hid hL
  clear hfo hfit' h hd hm hf hL hfit hsm hD
  have hb1 : Below w.heap.size w (w.alloc (.cells #[.int .i64 (z : Int)] 3)) := (Below.refl _ _).alloc (Nat.le_refl _) _
  have hx1 := heap_alloc_new w (.cells #[.int .i64 (z : Int)] 3)
  have hs1 : (w.alloc (.cells #[.int .i64 (z : Int)] 3)).heap.size = w.heap.size + 1 := by simp
  have HX1 := Lib.hid (And.intro hb1 (And.intro hx1 hs1))
  clear hb1 hx1 hs1
  have hz0 : (0 : Int) ≤ (z : Int) := by omega
  have hz1 : ¬ ((z : Int) < 0) := by omega
  have hz2 : ¬ ((L : Int) < (z : Int)) := by omega
  go_enter Tryz.func22, Tryz.ntmps22
  go_wp2_with fail
  refine (HO.out _ HX1.out.1).mono ?_
  rintro e w' ⟨rfl, rfl⟩
  go_wp2_with fail
  have hx2 := heap_alloc_new (w.alloc (.cells #[.int .i64 (z : Int)] 3)) (.cells #[.pointer (some ⟨f, 0, none⟩)] 82)
  rw [HX1.out.2.2] at hx2
  have hb2 : Below w.heap.size w ((w.alloc (.cells #[.int .i64 (z : Int)] 3)).alloc (.cells #[.pointer (some ⟨f, 0, none⟩)] 82)) := HX1.out.1.alloc HX1.out.1.size _
  have hx3 : ((w.alloc (.cells #[.int .i64 (z : Int)] 3)).alloc (.cells #[.pointer (some ⟨f, 0, none⟩)] 82)).heap[w.heap.size]? = some (.cells #[.int .i64 (z : Int)] 3 (0, 0)) := (Below.heap_alloc _ _ _ (by rw [HX1.out.2.2]; omega)).trans HX1.out.2.1
  obtain ⟨N, hN⟩ : ∃ N, N = w.heap.size := ⟨_, rfl⟩
  rw [← hN] at hx2 hx3 ⊢
  generalize ((w.alloc (.cells #[.int .i64 (z : Int)] 3)).alloc (.cells #[.pointer (some ⟨f, 0, none⟩)] 82)) = X at hx2 hb2 hx3 ⊢
  have HXX := Lib.hid (And.intro hb2 (And.intro hx2 hx3))
  have y0 : X.cell? ⟨N, 0, none⟩ = some (.int .i64 (z : Int)) := cell_of_row _ _ _ _ _ _ hx3
  have y1 : X.cell? ⟨N + 1, 0, none⟩ = some (.pointer (some ⟨f, 0, none⟩)) := cell_of_row _ _ _ _ _ _ hx2
  have HFX := Lib.hid (HF.out.later hb2)
  clear hb2 hx2 hx3 HX1 hN
  have hgd : decide ((z : Int) < 0) = false := by simp
  go_region_held3 (fun w' => w'.cell? ⟨N, 0, none⟩ = some (.int .i64 (z : Int)) ∧ w'.cell? ⟨N + 1, 0, none⟩ = some (.pointer (some ⟨f, 0, none⟩)) ∧ Below X.heap.size X w')
    (first
      | (exact ⟨y0, y1, (Below.refl _ _).drew⟩)
      | (exact ⟨(hb2.cell (block_lt_of_cell y0)).trans y0, (hb2.cell (block_lt_of_cell y1)).trans y1, hb2⟩)
      | (go_split_ands; assumption))
    (first
      | (go_at_call 58
         go_split_ands
         refine (bytes_any f S D _ (HFX.out.later (by assumption))).mono ?_
         rintro e w2 ⟨v, rfl, hown, hb1⟩
         have hb2 : Below X.heap.size X w2 := Below.trans (by assumption) (hb1.mono (Below.size (by assumption)))
         obtain ⟨av, cv, hv, _⟩ := hown.bytes
         rw [← HLL.out] at hv
         subst hv))
  all_goals
    go_split_ands
    have hb2 : Below X.heap.size X w2 := by assumption
    have HB2 := Lib.hid hb2
    clear hb2
    go_wp2_with fail
    have hw2 : Below w.heap.size w w2 := HXX.out.1.trans (HB2.out.mono HXX.out.1.size)
    refine (HST.out (N + 1) N w2 hw2 ((HB2.out.block _ (heap_lt HXX.out.2.1)).trans HXX.out.2.1) ((HB2.out.block _ (heap_lt HXX.out.2.2)).trans HXX.out.2.2)).mono ?_
    rintro e w' ⟨y, rfl, hl, hmv⟩
    have HRES := Lib.hid (And.intro hl ((Moved.of_below hw2 HF.out.lt).trans hmv))
    clear hl hmv hw2
    go_wp2_with fail
    go_ret
    exact ⟨y, rfl, HRES.out.1, HRES.out.2⟩
set_option maxRecDepth 100000 in
theorem Loose_any (d mb f : Nat) (M : List Ent) (st fu : Int) (out : Bool) (S : List UInt8) (D : List Deed) (w : World) (h : DiskM w st fu out d mb M) (hfo : fileOf nm M = some f) (hf : FileAt w f S D) :
    Calls Tryz.prog 36 #[.pointer (some ⟨d, 0, none⟩), .string nm] w fun e w' => e = .returned (.int .i64 (unitsD D : Nat)) ∧ w = w' := by
  obtain ⟨hfu, hmd, hd, c, hfit, hm⟩ := h
  obtain ⟨h0, h1, h2, h3⟩ := hd.cells
  have hl := look_log w mb c M hm hfo
  have HN := Lib.hid (none_any d mb st fu out w hd)
  have HL := Lib.hid (loose_at f S D w hf)
  clear hd h1 h2 h3 hm hf hfu hmd hfit hfo
  go_enter Tryz.func36, Tryz.ntmps36
  go_wp2_with fail
  refine HN.out.mono ?_
  rintro e w' ⟨rfl, rfl⟩
  go_wp2_with fail
  refine HL.out.mono ?_
  rintro e w' ⟨rfl, rfl⟩
  go_wp2_with fail
  go_ret
  exact ⟨rfl, rfl⟩
set_option maxRecDepth 100000 in
theorem Loose_none (d mb : Nat) (M : List Ent) (st fu : Int) (out : Bool) (w : World) (h : DiskM w st fu out d mb M) (hfo : fileOf nm M = none) :
    Calls Tryz.prog 36 #[.pointer (some ⟨d, 0, none⟩), .string nm] w fun e w' => e = .returned (.int .i64 0) ∧ w = w' := by
  obtain ⟨hfu, hmd, hd, c, hfit, hm⟩ := h
  obtain ⟨h0, h1, h2, h3⟩ := hd.cells
  have hl := look_none w mb c M hm hfo
  have HN := Lib.hid (none_any d mb st fu out w hd)
  clear hd h1 h2 h3 hm hfu hmd hfit hfo
  go_enter Tryz.func36, Tryz.ntmps36
  go_wp2_with fail
  refine HN.out.mono ?_
  rintro e w' ⟨rfl, rfl⟩
  go_wp2_with fail
  go_ret
  exact ⟨rfl, rfl⟩
end Go.Proofs.YtjkkfjmloleedaaGreat

/- disk: a file's bytes, in plain words -/
namespace Go.Proofs.YtjkkfjmloleedaaGreat
/-- bytes behind deeds. -/
def runD : List UInt8 → List Deed → List UInt8
  | b, [] => b
  | b, .more x :: D => runD (b ++ x) D
  | b, .cut n :: D => runD (b.take n) D
theorem units_zero : ∀ (D : List Deed) (S : List UInt8), unitsD D = 0 → runD S D = S
  | [], _, _ => rfl
  | .more x :: D, S, h => by
    have h1 : x.length + unitsD D = 0 := by simpa [unitsD, Deed.units] using h
    have hx : x = [] := List.eq_nil_of_length_eq_zero (by omega)
    subst hx
    simp [runD, units_zero D S (by omega)]
  | .cut n :: D, S, h => by
    simp [unitsD, Deed.units] at h
theorem allB_run : ∀ (D : List Deed) (S : List UInt8), allB S D = runD S D
  | [], _ => rfl
  | .more x :: D, S => by
    have hu : unitsD (.more x :: D) = x.length + unitsD D := by simp [unitsD, Deed.units]
    by_cases h : unitsD (.more x :: D) = 0
    · rw [units_zero _ _ h]
      unfold allB
      exact afterZ_stop _ _ _ (by omega)
    · unfold allB
      rw [afterZ_more _ _ _ (by omega), hu]
      have e1 : (min ((x.length + unitsD D : Nat) : Int) (x.length : Int)).toNat = x.length := by omega
      have e2 : ((x.length + unitsD D : Nat) : Int) - (x.length : Int) = (unitsD D : Nat) := by omega
      rw [e1, e2, List.take_of_length_le (Nat.le_refl _)]
      exact allB_run D (S ++ x)
  | .cut n :: D, S => by
    have hu : unitsD (.cut n :: D) = 1 + unitsD D := by simp [unitsD, Deed.units]
    unfold allB
    rw [afterZ_cut _ _ _ (by omega), hu]
    have e2 : ((1 + unitsD D : Nat) : Int) - 1 = (unitsD D : Nat) := by omega
    rw [e2]
    exact allB_run D (S.take n)
theorem runD_append : ∀ (D E : List Deed) (S : List UInt8), runD S (D ++ E) = runD (runD S D) E
  | [], _, _ => rfl
  | .more x :: D, E, S => runD_append D E (S ++ x)
  | .cut n :: D, E, S => runD_append D E (S.take n)
theorem fits_cut : ∀ (D : List Deed) (S : List UInt8) (z : Nat), fitsD S D → z ≤ (runD S D).length → fitsD S (D ++ [.cut z])
  | [], _, _, _, hz => ⟨hz, trivial⟩
  | .more x :: D, S, z, h, hz => fits_cut D (S ++ x) z h hz
  | .cut n :: D, S, z, h, hz => ⟨h.1, fits_cut D (S.take n) z h.2 hz⟩
theorem unitsD_append (D E : List Deed) : unitsD (D ++ E) = unitsD D + unitsD E := by simp [unitsD]
theorem unitsD_laid (D : List Deed) (n : Nat) (B : List UInt8) (h : B.length = n) : unitsD (laid D n B) = unitsD D + n := by
  unfold laid
  split
  · omega
  · rw [unitsD_append]; simp [unitsD, Deed.units, h]
theorem runD_laid (S : List UInt8) (D : List Deed) (n : Nat) (B : List UInt8) (h : B.length = n) : runD S (laid D n B) = runD S D ++ B := by
  unfold laid
  split
  · rw [List.eq_nil_of_length_eq_zero (by omega : B.length = 0), List.append_nil]
  · rw [runD_append]; rfl
theorem laid_length (D : List Deed) (n : Nat) (B : List UInt8) : (laid D n B).length ≤ D.length + 1 := by
  unfold laid
  split <;> simp
theorem sum_units (D : List Deed) : (D.map Deed.units).sum = unitsD D := rfl
end Go.Proofs.YtjkkfjmloleedaaGreat

/- disk: Fuse, Steps -/
namespace Go.Proofs.YtjkkfjmloleedaaGreat
open Go.RowKit
variable {nm : ByteArray}
set_option maxRecDepth 100000 in
theorem Fuse_any (d mb : Nat) (M : List Ent) (z st fu : Int) (out : Bool) (w : World) (hz1 : z ≤ 9223372036854775807) (h : DiskM w st fu out d mb M) :
    Calls Tryz.prog 16 #[.pointer (some ⟨d, 0, none⟩), .int .i64 z] w fun e w' => (z < 0 ∧ e = .returned (.int .i64 2) ∧ w' = w) ∨ (0 ≤ z ∧ e = .returned (.int .i64 0) ∧ DiskM w' st z out d mb M ∧ w' = w.setCell ⟨d, 2, none⟩ (.int .i64 z)) := by
  obtain ⟨hfu, hmd, hd, c, hfit, hm⟩ := h
  obtain ⟨h0, h1, h2, h3⟩ := hd.cells
  have z2 : w.frozen? ⟨d, 2, none⟩ = false := frozen_of_row _ _ _ _ _ hd
  have HN := Lib.hid (none_any d mb st fu out w hd)
  have HRES := Lib.hid (show DiskM (w.setCell ⟨d, 2, none⟩ (.int .i64 z)) st z out d mb M from ⟨hz1, hmd, heap_setCell_same w d 2 _ _ (.int .i64 z) hd, c, hfit, (Below.heap_setCell _ _ _ _ (by dsimp only; omega)).trans hm⟩)
  clear hd hm h0 h1 h3 hfu hmd hfit
  by_cases hz : z < 0
  · go_enter Tryz.func16, Tryz.ntmps16
    go_wp2_with fail
    refine HN.out.mono ?_
    rintro e w' ⟨rfl, rfl⟩
    go_wp2_with fail
    go_ret
    exact .inl ⟨hz, rfl, rfl⟩
  · go_enter Tryz.func16, Tryz.ntmps16
    go_wp2_with fail
    refine HN.out.mono ?_
    rintro e w' ⟨rfl, rfl⟩
    go_wp2_with fail
    go_ret
    exact .inr ⟨by omega, rfl, HRES.out, rfl⟩
end Go.Proofs.YtjkkfjmloleedaaGreat
