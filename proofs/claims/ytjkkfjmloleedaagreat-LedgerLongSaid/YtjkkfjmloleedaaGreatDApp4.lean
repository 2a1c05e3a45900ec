/- disk: what Append does behind the step, with bytes: the walk -/
import Derived.Test.YtjkkfjmloleedaaGreatDApp
namespace Go.Proofs.YtjkkfjmloleedaaGreat
open Go.RowKit
set_option linter.unusedSectionVars false
variable [Zone]
variable {nm : ByteArray}

theorem app_put (base d mb f : Nat) (M : List Ent) (st fu : Int) (S : List UInt8) (D : List Deed) (w : World) (hd : DiskRow w d mb st fu false) (hm : MapHas w mb M) (hfo : CanPut nm f M) (hf : FileOwn w f base S D) :
    ∃ (W : World) (M' : List Ent), PutTo nm f M M' ∧ (Instr.mapUpdate 43 (.map (some mb)) (.string nm) (.pointer (some ⟨f, 0, none⟩))).run Tryz.prog w.drew = .ok () W ∧ DiskRow W d mb st fu false ∧ MapHas W mb M' ∧ FileOwn W f base S D ∧ Moved d mb f w W ∧
      (∀ (j : Nat) (cs : Array Value) (t : TypeId) (fr : Nat × Nat), w.heap[j]? = some (.cells cs t fr) → W.heap[j]? = some (.cells cs t fr)) ∧ W.heap.size = w.heap.size ∧ (∀ j off v, w.cell? ⟨j, off, none⟩ = some v → W.heap[j]? = w.heap[j]?) := by
  obtain ⟨o, M', hpt, ho⟩ := put_free w mb f M hm hfo
  obtain ⟨cc, hfit, hmc⟩ := hm
  have hne : ∀ {j : Nat} {cs : Array Value} {t : TypeId} {fr : Nat × Nat}, w.heap[j]? = some (.cells cs t fr) → j ≠ mb := by
    rintro j cs t fr h rfl
    rw [hmc] at h
    cases h
  exact ⟨setObjAt w.drew mb o, M', hpt, (ho w.drew rfl).1, (heap_setObjAt w.drew mb d o (hne hd)).trans hd, (ho w.drew rfl).2,
    hf.moved (· = mb) (fun j e => e ▸ map_plain hmc) (hf.at.ne_map hmc) (fun c t j e h => hne h e) (fun j _ hn => heap_setObjAt w.drew mb j o hn),
    ⟨rfl, rfl, rfl, by unfold setObjAt; simp, fun j _ _ h _ _ => heap_setObjAt w.drew mb j o h, fun k hk => .inl (by rwa [rowOf_same (w := w) (heap_setObjAt w.drew mb f o (hf.at.ne_map hmc))] at hk)⟩, fun j cs t fr h => (heap_setObjAt w.drew mb j o (hne h)).trans h, by unfold setObjAt; simp, fun j off v hc => heap_setObjAt w.drew mb j o (by rintro rfl; simp [World.cell?, hmc] at hc)⟩
set_option maxRecDepth 100000 in
set_option maxHeartbeats 2000000 in
theorem AppDo_more (base p bd bn bb d mb f : Nat) (M : List Ent) (st fu : Int) (S : List UInt8) (D : List Deed) (ao : Option Addr) (n cap : Nat) (B : List UInt8) (w : World) (hbs : base ≤ w.heap.size)
    (hp : w.heap[p]? = some (.cells #[.pointer (some ⟨f, 0, none⟩)] 82 (0, 0))) (hbd : w.heap[bd]? = some (.cells #[.pointer (some ⟨d, 0, none⟩)] 24 (0, 0)))
    (hbn : w.heap[bn]? = some (.cells #[.string nm] 9 (0, 0))) (hbb : w.heap[bb]? = some (.cells #[.slice ao n cap] 36 (0, 0)))
    (hd : DiskRow w d mb st fu false) (hm : MapHas w mb M) (hfo : CanPut nm f M) (hf : FileOwn w f base S D) (hB : IsBytes w ao n cap B) (hz : ZW w) (hn0 : 0 < n) (hn : n ≤ 2147483648) (hD : D.length ≤ 1000000)
    (hfit : fitsD S (D ++ [Deed.more B])) (hsm : S.length + ((D ++ [Deed.more B]).map Deed.units).sum ≤ 4294967296) :
    Calls Tryz.prog 60 #[.pointer (some ⟨p, 0, none⟩), .pointer (some ⟨bd, 0, none⟩), .pointer (some ⟨bn, 0, none⟩), .pointer (some ⟨bb, 0, none⟩)] w
      fun e w' => e = .returned (.tuple #[]) ∧ (∃ M', PutTo nm f M M' ∧ DiskRow w' d mb st fu false ∧ MapHas w' mb M' ∧ FileOwn w' f base S (D ++ [Deed.more B]) ∧ Moved d mb f w w') := by
  have p0 : w.cell? ⟨p, 0, none⟩ = some (.pointer (some ⟨f, 0, none⟩)) := cell_of_row _ _ _ _ _ _ hp
  have p1 : w.cell? ⟨bd, 0, none⟩ = some (.pointer (some ⟨d, 0, none⟩)) := cell_of_row _ _ _ _ _ _ hbd
  have p2 : w.cell? ⟨bn, 0, none⟩ = some (.string nm) := cell_of_row _ _ _ _ _ _ hbn
  have h0 := hd.cells.1
  obtain ⟨W, M', hpt, hpu, hd2, hm2, ⟨⟨ao2, n2, cap2, lv, hr, hs, hl⟩, _, _⟩, hmv, hty, hsz, hcl⟩ := app_put base d mb f M st fu S D w hd hm hfo hf
  have HPT := Lib.hid hpt
  have HZ : Hid (ZW W) := Lib.hid (hz.mono (Nat.le_of_eq hsz.symm))
  have hp' := hty _ _ _ _ hp
  have hbb' := hty _ _ _ _ hbb
  have p3 : W.cell? ⟨bb, 0, none⟩ = some (.slice ao n cap) := cell_of_row _ _ _ _ _ _ hbb'
  have hB' : IsBytes W ao n cap B := hB.moved (fun j off v hc => hcl j off _ hc)
  obtain ⟨g0, hg0⟩ : ∃ g, g = W.heap.size := ⟨_, rfl⟩
  have HS := Lib.hid (fun (w' : World) (hg : W.grownBy w' lv.ownBlock) => appS hp' hbb' hr hl hg)
  have HE := Lib.hid (fun (w' : World) (v' : Value) (hg : W.grownBy w' lv.ownBlock) (ho' : OwnD w' base v' (D ++ [Deed.more B])) (hrw : ∀ k, v'.ownBlock = some k → lv.ownBlock = some k ∨ W.heap.size ≤ k) => app_end hr hs hl hd2 hm2 hg ho' hrw hfit hsm)
  have HB := Lib.hid hB'
  have HLEN : Hid ((D ++ [Deed.more B]).length = D.length + 1) := Lib.hid (by simp)
  have hf1 : W.cell? ⟨f, 1, none⟩ = some lv := cell_of_row _ _ _ _ _ _ hr
  have HL := Lib.hid hl
  have HD := Lib.hid hD
  have HMV := Lib.hid hmv
  have hbw : base ≤ W.heap.size := by rw [hsz]; exact hbs
  have HBW := Lib.hid hbw
  clear hfo hz hpt hd hm hf hB hbb hbd hbn hp hfit hsm hr hs hl hd2 hm2 hp' hbb' hB' hD hmv hty hsz hcl hbw hbs hg0 g0
  go_enter Tryz.func60, Tryz.ntmps60
  go_wp2
  go_region
  go_wp2_with fail
  refine wp_region_held_drew (S := fun w' => w'.cell? ⟨p, 0, none⟩ = some (.pointer (some ⟨f, 0, none⟩)) ∧ w'.cell? ⟨bb, 0, none⟩ = some (.slice ao n cap) ∧ w'.frozen? ⟨f, 1, none⟩ = false) (by kernel_rfl) ?hS0 (fun hHeld => ?_)
  case hS0 => (exact (HS.out _ (below_grownBy (Below.refl _ _).drew _)).1)
  refine wpAnyH_take (i := 0) (v := ?v1) rfl (by kernel_rfl) (by kernel_rfl) (by kernel_rfl) (fun _ _ _ h => h) (Or.inl ⟨?hw1, ?hy1⟩) (by assumption) ?_
  case hw1 => rfl
  case hy1 => (intro w hSw; (try dsimp only at hSw); go_simp; (first | done | with_reducible rfl))
  try simp only [Act.put, List.setIfInBounds_toArray]
  refine wpAnyH_take (i := 1) (v := ?v2) rfl (by kernel_rfl) (by kernel_rfl) (by kernel_rfl) (fun _ _ _ h => h) (Or.inl ⟨?hw2, ?hy2⟩) (by assumption) ?_
  case hw2 => rfl
  case hy2 => (intro w hSw; (try dsimp only at hSw); go_simp; (first | done | with_reducible rfl))
  try simp only [Act.put]
  refine wpAnyH_take (i := 2) (v := ?v3) rfl (by kernel_rfl) (by kernel_rfl) (by kernel_rfl) (fun _ _ _ h => h) (Or.inl ⟨?hw3, ?hy3⟩) (by assumption) ?_
  case hw3 => rfl
  case hy3 => (intro w hSw; (try dsimp only at hSw); go_simp; (first | done | with_reducible rfl))
  try simp only [Act.put]
  refine wpAnyH_take (i := 3) (v := ?v4) rfl (by kernel_rfl) (by kernel_rfl) (by kernel_rfl) (fun _ _ _ h => h) (Or.inl ⟨?hw4, ?hy4⟩) (by assumption) ?_
  case hw4 => rfl
  case hy4 => (intro w hSw; (try dsimp only at hSw); go_simp; (first | done | with_reducible rfl))
  try simp only [Act.put]
  refine wpAnyH_take (i := 5) (v := ?v5) rfl (by kernel_rfl) (by kernel_rfl) (by kernel_rfl) (fun _ _ _ h => h) (Or.inl ⟨?hw5, ?hy5⟩) (by assumption) ?_
  case hw5 => rfl
  case hy5 => (intro w hSw; (try dsimp only at hSw); go_simp; (first | done | with_reducible rfl))
  try simp only [Act.put]
  refine wpAnyH_ready (rs := [4, 6]) (by kernel_rfl) (by simp) ?_
  refine AllReadyH.cons (o := _) rfl (fun K hK => ?step6) ?_
  case step6 =>
    go_simp
    refine hK.out _ _ ?hS6 (fun hHeld => ?_)
    case hS6 => (first | (exact (HS.out _ (below_grownBy (Below.refl _ _).drew _)).1) | (exact (HS.out _ hgn).1) | (exact (HS.out _ hgn).2.1 _) | (exact (HS.out _ (grownBy_trans hgn (below_grownBy ((Below.refl _ _).alloc (Nat.le_refl _) _) _))).1))
    clear hK K
    try simp only [Act.put, List.setIfInBounds_toArray, List.set_cons_zero, List.set_cons_succ]
    refine wpAnyH_ready (rs := [6]) (by kernel_rfl) (by simp) ?_
    refine AllReadyH.cons (o := _) rfl (fun K hK => ?step7) ?_
    case step7 =>
      go_simp
      refine (CloneB_any ao n cap B _ (HB.out.later (Below.refl _ _).drew) (by omega)).mono ?_
      rintro e w1 ⟨v, rfl, hown, hb1⟩
      have hbW : Below W.heap.size W w1 := Below.trans (Below.refl _ W).drew hb1
      have hgn : W.grownBy w1 lv.ownBlock := below_grownBy hbW _
      have hf1a : w1.cell? ⟨f, 1, none⟩ = some lv := (hbW.cell (block_lt_of_cell hf1)).trans hf1
      have hf1b : ∀ o, (w1.alloc o).cell? ⟨f, 1, none⟩ = some lv := fun o => ((Below.alloc hbW hbW.size o).cell (block_lt_of_cell hf1)).trans hf1
      (try dsimp only)
      refine hK.out _ _ ?hS7 (fun hHeld => ?_)
      case hS7 => (first | (exact (HS.out _ (below_grownBy (Below.refl _ _).drew _)).1) | (exact (HS.out _ hgn).1) | (exact (HS.out _ hgn).2.1 _) | (exact (HS.out _ (grownBy_trans hgn (below_grownBy ((Below.refl _ _).alloc (Nat.le_refl _) _) _))).1))
      clear hK K
      try simp only [Act.put, List.setIfInBounds_toArray, List.set_cons_zero, List.set_cons_succ]
      refine wpAnyH_take (i := 7) (v := ?v8) rfl (by kernel_rfl) (by kernel_rfl) (by kernel_rfl) (fun _ _ _ h => h) (Or.inl ⟨?hw8, ?hy8⟩) (by assumption) ?_
      case hw8 => rfl
      case hy8 => (intro w hSw; (try dsimp only at hSw); go_simp; (first | done | with_reducible rfl))
      try simp only [Act.put, List.setIfInBounds_toArray]
      refine wpAnyH_ready (rs := [8]) (by kernel_rfl) (by simp) ?_
      refine AllReadyH.cons (o := _) rfl (fun K hK => ?step9) ?_
      case step9 =>
        go_simp
        refine hK.out _ _ ?hS9 (fun hHeld => ?_)
        case hS9 => (first | (exact (HS.out _ (below_grownBy (Below.refl _ _).drew _)).1) | (exact (HS.out _ hgn).1) | (exact (HS.out _ hgn).2.1 _) | (exact (HS.out _ (grownBy_trans hgn (below_grownBy ((Below.refl _ _).alloc (Nat.le_refl _) _) _))).1))
        clear hK K
        try simp only [Act.put, List.setIfInBounds_toArray, List.set_cons_zero, List.set_cons_succ]
        refine wpAnyH_ready (rs := [9]) (by kernel_rfl) (by simp) ?_
        refine AllReadyH.cons (o := _) rfl (fun K hK => ?step10) ?_
        case step10 =>
          rw [if_pos (by rfl)]
          refine opwp_append_deed _ _ rfl base lv D rfl (HL.out.later ((Below.alloc hbW hbW.size _))) w1.heap.size 1 rfl (.iface 95 v) (.more B) (cell_of_row _ _ _ _ _ _ (heap_alloc_new _ _)) ((IsDeed.of_own hown).later ((Below.refl _ _).alloc (Nat.le_refl _) _)) (ZV.of_own hown HZ.out) HD.out (Nat.le_trans HBW.out (Below.alloc hbW hbW.size _).size) ?_
          intro v2 w2 ho2 hg2 hrw2
          have HRW : Hid (∀ k, v2.ownBlock = some k → lv.ownBlock = some k ∨ W.heap.size ≤ k) := Lib.hid (fun k hk => (hrw2 k hk).imp id (Nat.le_trans (Below.alloc hbW hbW.size _).size))
          clear hrw2
          have hgn : W.grownBy w2 lv.ownBlock := grownBy_trans (below_grownBy ((Below.alloc hbW hbW.size _)) _) hg2
          obtain ⟨al2, cl2, hv2, _⟩ := ho2.deeds
          rw [HLEN.out] at hv2
          subst hv2
          have HO2 := Lib.hid ho2
          have hf1c := (HS.out _ hgn).2.2
          clear ho2
          refine hK.out _ _ ?hS10 (fun hHeld => ?_)
          case hS10 => (first | (exact (HS.out _ (below_grownBy (Below.refl _ _).drew _)).1) | (exact (HS.out _ hgn).1) | (exact (HS.out _ hgn).2.1 _) | (exact (HS.out _ (grownBy_trans hgn (below_grownBy ((Below.refl _ _).alloc (Nat.le_refl _) _) _))).1))
          clear hK K
          try simp only [Act.put, List.setIfInBounds_toArray]
          refine wpAnyH_take (i := 10) (v := ?v11) rfl (by kernel_rfl) (by kernel_rfl) (by kernel_rfl) (fun _ _ _ h => h) (Or.inl ⟨?hw11, ?hy11⟩) (by assumption) ?_
          case hw11 => rfl
          case hy11 => (intro w hSw; (try dsimp only at hSw); go_simp; (first | done | with_reducible rfl))
          try simp only [Act.put]
          refine wpAnyH_take (i := 11) (v := ?v12) rfl (by kernel_rfl) (by kernel_rfl) (by kernel_rfl) (fun _ _ _ h => h) (Or.inl ⟨?hw12, ?hy12⟩) (by assumption) ?_
          case hw12 => rfl
          case hy12 => (intro w hSw; (try dsimp only at hSw); go_simp; (first | done | with_reducible rfl))
          try simp only [Act.put]
          refine wpAnyH_ready (rs := [12]) (by kernel_rfl) (by simp) ?_
          refine AllReadyH.cons (o := _) rfl (fun K hK => ?step13) ?_
          case step13 =>
            go_simp
            refine hK.out _ _ ?hS13 (fun hHeld => ?_)
            case hS13 => (first | (exact (HS.out _ (below_grownBy (Below.refl _ _).drew _)).1) | (exact (HS.out _ hgn).1) | (exact (HS.out _ hgn).2.1 _) | (exact (HS.out _ (grownBy_trans hgn (below_grownBy ((Below.refl _ _).alloc (Nat.le_refl _) _) _))).1))
            clear hK K
            try simp only [Act.put, List.setIfInBounds_toArray, List.set_cons_zero, List.set_cons_succ]
            refine wpAnyH_done (by kernel_rfl) ?_ _
            go_wp2_with fail
            go_end0
            obtain ⟨e1, e2, e3, e4⟩ := HE.out w2 _ hgn HO2.out HRW.out
            exact ⟨rfl, M', HPT.out, e1, e2, e3, HMV.out.trans e4⟩
          exact AllReadyH.nil
        exact AllReadyH.nil
      exact AllReadyH.nil
    exact AllReadyH.nil
  refine AllReadyH.cons (o := _) rfl (fun K hK => ?step14) ?_
  case step14 =>
    go_simp
    refine (CloneB_any ao n cap B _ (HB.out.later (Below.refl _ _).drew) (by omega)).mono ?_
    rintro e w1 ⟨v, rfl, hown, hb1⟩
    have hbW : Below W.heap.size W w1 := Below.trans (Below.refl _ W).drew hb1
    have hgn : W.grownBy w1 lv.ownBlock := below_grownBy hbW _
    have hf1a : w1.cell? ⟨f, 1, none⟩ = some lv := (hbW.cell (block_lt_of_cell hf1)).trans hf1
    have hf1b : ∀ o, (w1.alloc o).cell? ⟨f, 1, none⟩ = some lv := fun o => ((Below.alloc hbW hbW.size o).cell (block_lt_of_cell hf1)).trans hf1
    (try dsimp only)
    refine hK.out _ _ ?hS14 (fun hHeld => ?_)
    case hS14 => (first | (exact (HS.out _ (below_grownBy (Below.refl _ _).drew _)).1) | (exact (HS.out _ hgn).1) | (exact (HS.out _ hgn).2.1 _) | (exact (HS.out _ (grownBy_trans hgn (below_grownBy ((Below.refl _ _).alloc (Nat.le_refl _) _) _))).1))
    clear hK K
    try simp only [Act.put, List.setIfInBounds_toArray, List.set_cons_zero, List.set_cons_succ]
    refine wpAnyH_take (i := 7) (v := ?v15) rfl (by kernel_rfl) (by kernel_rfl) (by kernel_rfl) (fun _ _ _ h => h) (Or.inl ⟨?hw15, ?hy15⟩) (by assumption) ?_
    case hw15 => rfl
    case hy15 => (intro w hSw; (try dsimp only at hSw); go_simp; (first | done | with_reducible rfl))
    try simp only [Act.put, List.setIfInBounds_toArray]
    refine wpAnyH_ready (rs := [4, 8]) (by kernel_rfl) (by simp) ?_
    refine AllReadyH.cons (o := _) rfl (fun K hK => ?step16) ?_
    case step16 =>
      go_simp
      refine hK.out _ _ ?hS16 (fun hHeld => ?_)
      case hS16 => (first | (exact (HS.out _ (below_grownBy (Below.refl _ _).drew _)).1) | (exact (HS.out _ hgn).1) | (exact (HS.out _ hgn).2.1 _) | (exact (HS.out _ (grownBy_trans hgn (below_grownBy ((Below.refl _ _).alloc (Nat.le_refl _) _) _))).1))
      clear hK K
      try simp only [Act.put, List.setIfInBounds_toArray, List.set_cons_zero, List.set_cons_succ]
      refine wpAnyH_ready (rs := [8]) (by kernel_rfl) (by simp) ?_
      refine AllReadyH.cons (o := _) rfl (fun K hK => ?step17) ?_
      case step17 =>
        go_simp
        refine hK.out _ _ ?hS17 (fun hHeld => ?_)
        case hS17 => (first | (exact (HS.out _ (below_grownBy (Below.refl _ _).drew _)).1) | (exact (HS.out _ hgn).1) | (exact (HS.out _ hgn).2.1 _) | (exact (HS.out _ (grownBy_trans hgn (below_grownBy ((Below.refl _ _).alloc (Nat.le_refl _) _) _))).1))
        clear hK K
        try simp only [Act.put, List.setIfInBounds_toArray, List.set_cons_zero, List.set_cons_succ]
        refine wpAnyH_ready (rs := [9]) (by kernel_rfl) (by simp) ?_
        refine AllReadyH.cons (o := _) rfl (fun K hK => ?step18) ?_
        case step18 =>
          rw [if_pos (by rfl)]
          refine opwp_append_deed _ _ rfl base lv D rfl (HL.out.later ((Below.alloc hbW hbW.size _))) w1.heap.size 1 rfl (.iface 95 v) (.more B) (cell_of_row _ _ _ _ _ _ (heap_alloc_new _ _)) ((IsDeed.of_own hown).later ((Below.refl _ _).alloc (Nat.le_refl _) _)) (ZV.of_own hown HZ.out) HD.out (Nat.le_trans HBW.out (Below.alloc hbW hbW.size _).size) ?_
          intro v2 w2 ho2 hg2 hrw2
          have HRW : Hid (∀ k, v2.ownBlock = some k → lv.ownBlock = some k ∨ W.heap.size ≤ k) := Lib.hid (fun k hk => (hrw2 k hk).imp id (Nat.le_trans (Below.alloc hbW hbW.size _).size))
          clear hrw2
          have hgn : W.grownBy w2 lv.ownBlock := grownBy_trans (below_grownBy ((Below.alloc hbW hbW.size _)) _) hg2
          obtain ⟨al2, cl2, hv2, _⟩ := ho2.deeds
          rw [HLEN.out] at hv2
          subst hv2
          have HO2 := Lib.hid ho2
          have hf1c := (HS.out _ hgn).2.2
          clear ho2
          refine hK.out _ _ ?hS18 (fun hHeld => ?_)
          case hS18 => (first | (exact (HS.out _ (below_grownBy (Below.refl _ _).drew _)).1) | (exact (HS.out _ hgn).1) | (exact (HS.out _ hgn).2.1 _) | (exact (HS.out _ (grownBy_trans hgn (below_grownBy ((Below.refl _ _).alloc (Nat.le_refl _) _) _))).1))
          clear hK K
          try simp only [Act.put, List.setIfInBounds_toArray]
          refine wpAnyH_take (i := 10) (v := ?v19) rfl (by kernel_rfl) (by kernel_rfl) (by kernel_rfl) (fun _ _ _ h => h) (Or.inl ⟨?hw19, ?hy19⟩) (by assumption) ?_
          case hw19 => rfl
          case hy19 => (intro w hSw; (try dsimp only at hSw); go_simp; (first | done | with_reducible rfl))
          try simp only [Act.put]
          refine wpAnyH_take (i := 11) (v := ?v20) rfl (by kernel_rfl) (by kernel_rfl) (by kernel_rfl) (fun _ _ _ h => h) (Or.inl ⟨?hw20, ?hy20⟩) (by assumption) ?_
          case hw20 => rfl
          case hy20 => (intro w hSw; (try dsimp only at hSw); go_simp; (first | done | with_reducible rfl))
          try simp only [Act.put]
          refine wpAnyH_ready (rs := [12]) (by kernel_rfl) (by simp) ?_
          refine AllReadyH.cons (o := _) rfl (fun K hK => ?step21) ?_
          case step21 =>
            go_simp
            refine hK.out _ _ ?hS21 (fun hHeld => ?_)
            case hS21 => (first | (exact (HS.out _ (below_grownBy (Below.refl _ _).drew _)).1) | (exact (HS.out _ hgn).1) | (exact (HS.out _ hgn).2.1 _) | (exact (HS.out _ (grownBy_trans hgn (below_grownBy ((Below.refl _ _).alloc (Nat.le_refl _) _) _))).1))
            clear hK K
            try simp only [Act.put, List.setIfInBounds_toArray, List.set_cons_zero, List.set_cons_succ]
            refine wpAnyH_done (by kernel_rfl) ?_ _
            go_wp2_with fail
            go_end0
            obtain ⟨e1, e2, e3, e4⟩ := HE.out w2 _ hgn HO2.out HRW.out
            exact ⟨rfl, M', HPT.out, e1, e2, e3, HMV.out.trans e4⟩
          exact AllReadyH.nil
        exact AllReadyH.nil
      exact AllReadyH.nil
    refine AllReadyH.cons (o := _) rfl (fun K hK => ?step22) ?_
    case step22 =>
      go_simp
      refine hK.out _ _ ?hS22 (fun hHeld => ?_)
      case hS22 => (first | (exact (HS.out _ (below_grownBy (Below.refl _ _).drew _)).1) | (exact (HS.out _ hgn).1) | (exact (HS.out _ hgn).2.1 _) | (exact (HS.out _ (grownBy_trans hgn (below_grownBy ((Below.refl _ _).alloc (Nat.le_refl _) _) _))).1))
      clear hK K
      try simp only [Act.put, List.setIfInBounds_toArray, List.set_cons_zero, List.set_cons_succ]
      refine wpAnyH_ready (rs := [4]) (by kernel_rfl) (by simp) ?_
      refine AllReadyH.cons (o := _) rfl (fun K hK => ?step23) ?_
      case step23 =>
        go_simp
        refine hK.out _ _ ?hS23 (fun hHeld => ?_)
        case hS23 => (first | (exact (HS.out _ (below_grownBy (Below.refl _ _).drew _)).1) | (exact (HS.out _ hgn).1) | (exact (HS.out _ hgn).2.1 _) | (exact (HS.out _ (grownBy_trans hgn (below_grownBy ((Below.refl _ _).alloc (Nat.le_refl _) _) _))).1))
        clear hK K
        try simp only [Act.put, List.setIfInBounds_toArray, List.set_cons_zero, List.set_cons_succ]
        refine wpAnyH_ready (rs := [9]) (by kernel_rfl) (by simp) ?_
        refine AllReadyH.cons (o := _) rfl (fun K hK => ?step24) ?_
        case step24 =>
          rw [if_pos (by rfl)]
          refine opwp_append_deed _ _ rfl base lv D rfl (HL.out.later ((Below.alloc hbW hbW.size _))) w1.heap.size 1 rfl (.iface 95 v) (.more B) (cell_of_row _ _ _ _ _ _ (heap_alloc_new _ _)) ((IsDeed.of_own hown).later ((Below.refl _ _).alloc (Nat.le_refl _) _)) (ZV.of_own hown HZ.out) HD.out (Nat.le_trans HBW.out (Below.alloc hbW hbW.size _).size) ?_
          intro v2 w2 ho2 hg2 hrw2
          have HRW : Hid (∀ k, v2.ownBlock = some k → lv.ownBlock = some k ∨ W.heap.size ≤ k) := Lib.hid (fun k hk => (hrw2 k hk).imp id (Nat.le_trans (Below.alloc hbW hbW.size _).size))
          clear hrw2
          have hgn : W.grownBy w2 lv.ownBlock := grownBy_trans (below_grownBy ((Below.alloc hbW hbW.size _)) _) hg2
          obtain ⟨al2, cl2, hv2, _⟩ := ho2.deeds
          rw [HLEN.out] at hv2
          subst hv2
          have HO2 := Lib.hid ho2
          have hf1c := (HS.out _ hgn).2.2
          clear ho2
          refine hK.out _ _ ?hS24 (fun hHeld => ?_)
          case hS24 => (first | (exact (HS.out _ (below_grownBy (Below.refl _ _).drew _)).1) | (exact (HS.out _ hgn).1) | (exact (HS.out _ hgn).2.1 _) | (exact (HS.out _ (grownBy_trans hgn (below_grownBy ((Below.refl _ _).alloc (Nat.le_refl _) _) _))).1))
          clear hK K
          try simp only [Act.put, List.setIfInBounds_toArray]
          refine wpAnyH_take (i := 10) (v := ?v25) rfl (by kernel_rfl) (by kernel_rfl) (by kernel_rfl) (fun _ _ _ h => h) (Or.inl ⟨?hw25, ?hy25⟩) (by assumption) ?_
          case hw25 => rfl
          case hy25 => (intro w hSw; (try dsimp only at hSw); go_simp; (first | done | with_reducible rfl))
          try simp only [Act.put]
          refine wpAnyH_take (i := 11) (v := ?v26) rfl (by kernel_rfl) (by kernel_rfl) (by kernel_rfl) (fun _ _ _ h => h) (Or.inl ⟨?hw26, ?hy26⟩) (by assumption) ?_
          case hw26 => rfl
          case hy26 => (intro w hSw; (try dsimp only at hSw); go_simp; (first | done | with_reducible rfl))
          try simp only [Act.put]
          refine wpAnyH_ready (rs := [12]) (by kernel_rfl) (by simp) ?_
          refine AllReadyH.cons (o := _) rfl (fun K hK => ?step27) ?_
          case step27 =>
            go_simp
            refine hK.out _ _ ?hS27 (fun hHeld => ?_)
            case hS27 => (first | (exact (HS.out _ (below_grownBy (Below.refl _ _).drew _)).1) | (exact (HS.out _ hgn).1) | (exact (HS.out _ hgn).2.1 _) | (exact (HS.out _ (grownBy_trans hgn (below_grownBy ((Below.refl _ _).alloc (Nat.le_refl _) _) _))).1))
            clear hK K
            try simp only [Act.put, List.setIfInBounds_toArray, List.set_cons_zero, List.set_cons_succ]
            refine wpAnyH_done (by kernel_rfl) ?_ _
            go_wp2_with fail
            go_end0
            obtain ⟨e1, e2, e3, e4⟩ := HE.out w2 _ hgn HO2.out HRW.out
            exact ⟨rfl, M', HPT.out, e1, e2, e3, HMV.out.trans e4⟩
          exact AllReadyH.nil
        exact AllReadyH.nil
      exact AllReadyH.nil
    exact AllReadyH.nil
  exact AllReadyH.nil
end Go.Proofs.YtjkkfjmloleedaaGreat

/- disk: Append: the step -/
namespace Go.Proofs.YtjkkfjmloleedaaGreat
open Go.RowKit
set_option linter.unusedSectionVars false
variable [Zone]
variable {nm : ByteArray}
/-- what Append lays under way. -/
def laid (D : List Deed) (n : Nat) (B : List UInt8) : List Deed := if n = 0 then D else D ++ [Deed.more B]
theorem enters_app : ∀ args w, (callFunc 60 args).run Tryz.prog w = .ok (.enter 60 args) w := enters_of (hf := Tryz.func60) (hname := by kernel_rfl) (hb := rfl)
theorem fitsD_more : ∀ (D : List Deed) (S B : List UInt8), fitsD S D → fitsD S (D ++ [Deed.more B])
  | [], _, _, _ => trivial
  | .more x :: D, S, B, h => fitsD_more D (S ++ x) B h
  | .cut n :: D, S, B, h => ⟨h.1, fitsD_more D (S.take n) B h.2⟩
theorem app_step (base p bd bn bb d mb f : Nat) (M : List Ent) (st fu : Int) (S : List UInt8) (D : List Deed) (ao : Option Addr) (n cap : Nat) (B : List UInt8) (w : World) (hbs : base ≤ w.heap.size)
    (hp : w.heap[p]? = some (.cells #[.pointer (some ⟨f, 0, none⟩)] 82 (0, 0))) (hbd : w.heap[bd]? = some (.cells #[.pointer (some ⟨d, 0, none⟩)] 24 (0, 0)))
    (hbn : w.heap[bn]? = some (.cells #[.string nm] 9 (0, 0))) (hbb : w.heap[bb]? = some (.cells #[.slice ao n cap] 36 (0, 0)))
    (hdm : DiskM w st fu false d mb M) (hfo : CanPut nm f M) (hf : FileOwn w f base S D) (hB : IsBytes w ao n cap B) (hz : ZW w) (hn : n ≤ 2147483648) (hD : D.length ≤ 1000000)
    (hsm : S.length + ((D ++ [Deed.more B]).map Deed.units).sum ≤ 4294967296) :
    Calls Tryz.prog 59 #[.pointer (some ⟨d, 0, none⟩), .func (.func 60) #[] #[.pointer (some ⟨p, 0, none⟩), .pointer (some ⟨bd, 0, none⟩), .pointer (some ⟨bn, 0, none⟩), .pointer (some ⟨bb, 0, none⟩)]] w
      fun e w' => ∃ z, e = .returned (.int .i64 z) ∧ Stepped fu z (DiskM w' st fu true d mb M ∧ FileOwn w' f base S D) (∃ M', PutTo nm f M M' ∧ DiskM w' (wrap64 (st + 1)) (dec fu) false d mb M' ∧ FileOwn w' f base S (laid D n B)) ∧ Moved d mb f w w' := by
  have hd := hdm.2.2.1
  have hnd := hf.at.ne_disk hd
  refine (step_all d mb st fu _ _ M w hdm enters_app (fun w' => (∃ M', PutTo nm f M M' ∧ DiskM w' (wrap64 (st + 1)) (dec fu) false d mb M' ∧ FileOwn w' f base S (laid D n B)) ∧ Moved d mb f w w') (fun hfu => ?_)).mono ?_
  · have hmd := hdm.2.1
    have hne : ∀ {j : Nat} {v : Value} {t : TypeId} {fr : Nat × Nat}, w.heap[j]? = some (.cells #[v] t fr) → j ≠ d := by
      rintro j v t fr h rfl
      unfold DiskRow at hd
      rw [hd] at h
      cases h
    have hst : ∀ (j : Nat), j ≠ d → (stepW w d st fu).heap[j]? = w.heap[j]? := fun j hj => stepW_heap hj
    have hdm2 := hdm.stepped
    have hB2 : IsBytes (stepW w d st fu) ao n cap B := hB.moved fun j off v hc => hst j (by
      rintro rfl
      have := hd.plain _ _ hc
      simp [plainV] at this)
    have hmv : Moved d mb f w (stepW w d st fu) := (Moved.refl _ _ _ _).stepW hnd
    have key : ∀ {e : Ending} {w' : World} {D' : List Deed}, (e = .returned (.tuple #[]) ∧ ∃ M', PutTo nm f M M' ∧ DiskRow w' d mb (wrap64 (st + 1)) (dec fu) false ∧ MapHas w' mb M' ∧ FileOwn w' f base S D' ∧ Moved d mb f (stepW w d st fu) w') →
        e = .returned (.tuple #[]) ∧ (∃ M', PutTo nm f M M' ∧ DiskM w' (wrap64 (st + 1)) (dec fu) false d mb M' ∧ FileOwn w' f base S D') ∧ Moved d mb f w w' := by
      rintro e w' D' ⟨rfl, M', hpt, h1, h2, h3, h4⟩
      exact ⟨rfl, ⟨M', hpt, ⟨hdm2.1, hmd, h1, h2⟩, h3⟩, hmv.trans h4⟩
    by_cases h0 : n = 0
    · subst h0
      have : laid D 0 B = D := rfl
      rw [this]
      exact (AppDo_none base p bd bn bb d mb f M _ (dec fu) S D ao cap _ ((hst _ (hne hp)).trans hp) ((hst _ (hne hbd)).trans hbd) ((hst _ (hne hbn)).trans hbn) ((hst _ (hne hbb)).trans hbb) hdm2.2.2.1 hdm2.2.2.2 hfo (hf.stepped hd)).mono fun e w' h => key h
    · have : laid D n B = D ++ [Deed.more B] := if_neg h0
      rw [this]
      exact (AppDo_more base p bd bn bb d mb f M _ (dec fu) S D ao n cap B _ (by rw [stepW_size]; exact hbs) ((hst _ (hne hp)).trans hp) ((hst _ (hne hbd)).trans hbd) ((hst _ (hne hbn)).trans hbn) ((hst _ (hne hbb)).trans hbb) hdm2.2.2.1 hdm2.2.2.2 hfo (hf.stepped hd) hB2 (hz.mono (by rw [stepW_size]; exact Nat.le_refl _)) (by omega) hn hD (fitsD_more D S B hf.2.1) hsm).mono fun e w' h => key h
  · rintro e w' ⟨z, rfl, ⟨h1, h2, rfl⟩ | ⟨h1, h2, q1, q2⟩⟩
    · exact ⟨z, rfl, .inl ⟨h1, h2, hdm.outed, hf.outed hd _ _⟩, (Moved.refl _ _ _ _).setCell_d hnd _ _⟩
    · exact ⟨z, rfl, .inr ⟨h1, h2, q1⟩, q2⟩
/-- the memory of Append behind its arguments' boxes. -/
theorem app_boxes (d : Nat) (nm : ByteArray) (v : Value) (w w1 : World) (h : ((w.alloc (.cells #[.pointer (some ⟨d, 0, none⟩)] 24)).alloc (.cells #[.string nm] 9)).alloc (.cells #[v] 36) = w1) :
    w1.heap[w.heap.size]? = some (.cells #[.pointer (some ⟨d, 0, none⟩)] 24 (0, 0)) ∧ w1.heap[w.heap.size + 1]? = some (.cells #[.string nm] 9 (0, 0)) ∧ w1.heap[w.heap.size + 1 + 1]? = some (.cells #[v] 36 (0, 0)) ∧ Below w.heap.size w w1 ∧ w1.heap.size = w.heap.size + 3 := by
  subst h
  refine ⟨?_, ?_, ?_, (((Below.refl _ _).alloc (Nat.le_refl _) _).alloc (by simp) _).alloc (by simp; omega) _, by simp⟩
  · rw [Below.heap_alloc _ _ _ (by simp; omega), Below.heap_alloc _ _ _ (by simp)]
    exact heap_alloc_new _ _
  · rw [Below.heap_alloc _ _ _ (by simp)]
    have := heap_alloc_new (w.alloc (.cells #[.pointer (some ⟨d, 0, none⟩)] 24)) (.cells #[.string nm] 9)
    simpa using this
  · have := heap_alloc_new ((w.alloc (.cells #[.pointer (some ⟨d, 0, none⟩)] 24)).alloc (.cells #[.string nm] 9)) (.cells #[v] 36)
    simpa using this
/-- the memory of Append where the file is new. -/
theorem app_new (N : Nat) {w1 : World} (hs : w1.heap.size = N + 3) (w2 X : World) (d : Nat) (nm : ByteArray) (v : Value) (h0 : w1.heap[N]? = some (.cells #[.pointer (some ⟨d, 0, none⟩)] 24 (0, 0))) (h1 : w1.heap[N + 1]? = some (.cells #[.string nm] 9 (0, 0)))
    (h2 : w1.heap[N + 1 + 1]? = some (.cells #[v] 36 (0, 0))) (e : w2 = w1) (h : ((w2.alloc (.cells #[.pointer (some ⟨N + 3 + 1, 0, none⟩)] 82)).alloc (.cells #[.slice none 0 0, .slice none 0 0] 92)).drew = X) :
    X.heap[N]? = some (.cells #[.pointer (some ⟨d, 0, none⟩)] 24 (0, 0)) ∧ X.heap[N + 1]? = some (.cells #[.string nm] 9 (0, 0)) ∧ X.heap[N + 1 + 1]? = some (.cells #[v] 36 (0, 0)) ∧
      X.heap[N + 3]? = some (.cells #[.pointer (some ⟨N + 3 + 1, 0, none⟩)] 82 (0, 0)) ∧ X.heap[N + 3 + 1]? = some (.cells #[.slice none 0 0, .slice none 0 0] 92 (0, 0)) ∧ Below w1.heap.size w1 X := by
  subst e
  have hb : Below w2.heap.size w2 X := by rw [← h]; exact (((Below.refl _ _).alloc (Nat.le_refl _) _).alloc (by simp) _).drew
  refine ⟨(hb.block _ (by omega)).trans h0, (hb.block _ (by omega)).trans h1, (hb.block _ (by omega)).trans h2, ?_, ?_, hb⟩
  · rw [← h]
    show ((w2.alloc _).alloc _).heap[_]? = _
    rw [Below.heap_alloc _ _ _ (by simp; omega), ← hs]
    exact heap_alloc_new _ _
  · rw [← h]
    show ((w2.alloc _).alloc _).heap[_]? = _
    have := heap_alloc_new (w2.alloc (.cells #[.pointer (some ⟨N + 3 + 1, 0, none⟩)] 82)) (.cells #[.slice none 0 0, .slice none 0 0] 92)
    rw [← this]
    congr 2
    simp [hs]
set_option maxRecDepth 100000 in
theorem Append_new (base d mb : Nat) (M : List Ent) (st fu : Int) (ao : Option Addr) (n cap : Nat) (B : List UInt8) (w : World) (hbs : base ≤ w.heap.size) (hnf : nameP nm.data.toList = true) (h : DiskM w st fu false d mb M) (hfo : fileOf nm M = none) (hml : M.length < 16) (hB : IsBytes w ao n cap B) (hz : ZW w) (hn : n ≤ 1048576) :
    Calls Tryz.prog 20 #[.pointer (some ⟨d, 0, none⟩), .string nm, .slice ao n cap] w fun e w' => ∃ z, e = .returned (.int .i64 z) ∧ ∃ f, w.heap.size ≤ f ∧ Stepped fu z (DiskM w' st fu true d mb M) (∃ c, DiskM w' (wrap64 (st + 1)) (dec fu) false d mb (M ++ [(nm, f, c)]) ∧ FileOwn w' f base [] (laid [] n B)) ∧ Moved d mb f w w' := by
  have HDM := Lib.hid h
  obtain ⟨hfx, hmd, hd, c, hfit, hm⟩ := h
  have h0 := hd.cells.1
  have HNF := Lib.hid hnf
  have HML := Lib.hid hml
  have HFO := Lib.hid hfo
  have HZ := Lib.hid hz
  have HD := Lib.hid hd
  have HM := Lib.hid hm
  have HB := Lib.hid hB
  have hml2 : ¬ (16 : Int) ≤ (M.length : Int) := by omega
  clear hfx hmd hd hm hB hfit hnf hfo hz
  go_enter Tryz.func20, Tryz.ntmps20
  go_wp2_with fail
  generalize hw1 : ((w.alloc (.cells #[.pointer (some ⟨d, 0, none⟩)] 24)).alloc (.cells #[.string nm] 9)).alloc (.cells #[.slice ao n cap] 36) = w1
  obtain ⟨b0, b1, b2, hB1, hS1⟩ := app_boxes d nm _ w w1 hw1
  clear hw1
  generalize hN : w.heap.size = N at b0 b1 b2 hS1 hbs ⊢
  have HD1 : Hid (DiskRow w1 d mb st fu false) := Lib.hid ((hB1.block _ HD.out.lt).trans HD.out)
  have HM1 : Hid (w1.heap[mb]? = some (.map (ents M) c)) := Lib.hid ((hB1.block _ (heap_lt HM.out)).trans HM.out)
  have h1 := HD1.out.cells.1
  have c0 : w1.cell? ⟨N, 0, none⟩ = some (.pointer (some ⟨d, 0, none⟩)) := cell_of_row _ _ _ _ _ _ b0
  have c1 : w1.cell? ⟨N + 1, 0, none⟩ = some (.string nm) := cell_of_row _ _ _ _ _ _ b1
  have c2 : w1.cell? ⟨N + 1 + 1, 0, none⟩ = some (.slice ao n cap) := cell_of_row _ _ _ _ _ _ b2
  have hlk : (Instr.lookup 43 (.map (some mb)) (.string nm) false).run Tryz.prog (w1.alloc (.cells #[.pointer none] 82)).drew = .ok (.pointer none) (w1.alloc (.cells #[.pointer none] 82)).drew := by
    exact look_none _ mb c M ((Below.heap_alloc w1 (.cells #[.pointer none] 82) mb (heap_lt HM1.out)).trans HM1.out) HFO.out
  have hlk2 : (Instr.lookup 43 (.map (some mb)) (.string nm) false).run Tryz.prog w1.drew = .ok (.pointer none) w1.drew := by
    exact look_none w1.drew mb c M HM1.out HFO.out
  have hle : ∀ ty, (Builtin.len_ #[43] ty #[.map (some mb)]).run Tryz.prog (w1.alloc (.cells #[.pointer none] 82)).drew = .ok (.int .i64 (M.length : Nat)) (w1.alloc (.cells #[.pointer none] 82)).drew :=
    fun ty => len_ents _ mb c M ty ((Below.heap_alloc w1 (.cells #[.pointer none] 82) mb (heap_lt HM1.out)).trans HM1.out)
  have h1a : (w1.alloc (.cells #[.pointer none] 82)).cell? ⟨d, 0, none⟩ = some (.map (some mb)) := (World.cell?_of_block (w := w1) (Below.heap_alloc w1 _ d HD1.out.lt)).trans h1
  have HB0 := Lib.hid b0
  have HB1 := Lib.hid b1
  have HB2 := Lib.hid b2
  have HBL := Lib.hid hB1
  clear b0 b1 b2 hB1
  refine (down_any d mb st fu w1 HD1.out).mono ?_
  rintro e w' ⟨rfl, rfl⟩
  go_wp2_with fail
  go_region
  all_goals
    go_wp2_with fail
    refine (named_log _ HNF.out).mono ?_
    rintro e w' ⟨rfl, rfl⟩
    go_wp2_with fail
    generalize hX : (((w1.alloc (.cells #[.pointer (some ⟨N + 3 + 1, 0, none⟩)] 82)).alloc (.cells #[.slice none 0 0, .slice none 0 0] 92)).drew : World) = X
    obtain ⟨x0, x1, x2, x3, x4, xb⟩ := app_new N hS1 w1 X d nm _ HB0.out HB1.out HB2.out rfl hX
    have hbX : Below w.heap.size w X := HBL.out.trans (xb.mono HBL.out.size)
    have hfX : FileOwn X (N + 3 + 1) base [] [] := ⟨⟨none, 0, 0, .slice none 0 0, x4, ⟨IsBytes.nil X, ZS.nil⟩, OwnD.nil X base⟩, trivial, by simp⟩
    have HX4 : Hid (FileRow X (N + 3 + 1) (.slice none 0 0) (.slice none 0 0)) := Lib.hid x4
    have HXX := Lib.hid (And.intro x0 (And.intro x1 (And.intro x2 x3)))
    have HX := Lib.hid (And.intro hbX (And.intro trivial (And.intro trivial hfX)))
    have y2 : X.cell? ⟨N + 1 + 1, 0, none⟩ = some (.slice ao n cap) := cell_of_row _ _ _ _ _ _ x2
    have y3 : X.cell? ⟨N + 3, 0, none⟩ = some (.pointer (some ⟨N + 3 + 1, 0, none⟩)) := cell_of_row _ _ _ _ _ _ x3
    clear x0 x1 x2 x3 x4 xb hbX hfX hX hlk hlk2 hle h1a c0 c1 c2 h1 HB0 HB1 HB2 HD1 HM1 hS1
    obtain ⟨L, hL⟩ : ∃ L, L = (allB [] []).length := ⟨_, rfl⟩
    have hLn : n + L ≤ 1048576 := by rw [hL]; simpa [allB, afterZ, unitsD] using hn
    have HL := Lib.hid hL
    clear hL
    have hwr : IntKind.i64.wrap (1048576 - (L : Int)) = 1048576 - (L : Int) := IntWalk.i64_in _ (by omega)
    have hcm : ¬ (1048576 - (L : Int) < (n : Int)) := by omega
    go_region_held3 (fun w' => w'.cell? ⟨N + 1 + 1, 0, none⟩ = some (.slice ao n cap) ∧ w'.cell? ⟨N + 3, 0, none⟩ = some (.pointer (some ⟨N + 3 + 1, 0, none⟩)) ∧ Below X.heap.size X w')
      (first
        | (exact ⟨y2, y3, (Below.refl _ _).drew⟩)
        | (exact ⟨(hb2.cell (block_lt_of_cell y2)).trans y2, (hb2.cell (block_lt_of_cell y3)).trans y3, hb2⟩)
        | (go_split_ands; assumption))
      (first
        | (go_at_call 58
           go_split_ands
           refine (bytes_any (N + 3 + 1) [] [] _ (HX.out.2.2.2.at.later (by assumption))).mono ?_
           rintro e w2 ⟨v, rfl, hown, hb1⟩
           have hb2 : Below X.heap.size X w2 := Below.trans (by assumption) (hb1.mono (Below.size (by assumption)))
           obtain ⟨av, cv, hv, _⟩ := hown.bytes
           rw [← HL.out] at hv
           subst hv))
    all_goals
      go_split_ands
      have hb2 : Below X.heap.size X w2 := by assumption
      have z0 : w2.cell? ⟨N, 0, none⟩ = some (.pointer (some ⟨d, 0, none⟩)) := cell_of_row _ _ _ _ _ _ ((hb2.block _ (heap_lt HXX.out.1)).trans HXX.out.1)
      have HB2 := Lib.hid hb2
      clear hb2
      go_wp2_with fail
      have hw2 : Below w.heap.size w w2 := HX.out.1.trans (HB2.out.mono HX.out.1.size)
      refine (app_step base (N + 3) N (N + 1) (N + 1 + 1) d mb (N + 3 + 1) M st fu [] [] ao n cap B w2 (Nat.le_trans (by omega) hw2.size) ((HB2.out.block _ (heap_lt HXX.out.2.2.2)).trans HXX.out.2.2.2) ((HB2.out.block _ (heap_lt HXX.out.1)).trans HXX.out.1)
        ((HB2.out.block _ (heap_lt HXX.out.2.1)).trans HXX.out.2.1) ((HB2.out.block _ (heap_lt HXX.out.2.2.1)).trans HXX.out.2.2.1) (HDM.out.later hw2) (.inr ⟨HFO.out, HNF.out, HML.out⟩) (HX.out.2.2.2.later HB2.out) (HB.out.later hw2) (HZ.out.mono hw2.size) (by omega) (by simp)
        (by have := HB.out.1; simp [Deed.units]; omega)).mono ?_
      rintro e w' ⟨z, rfl, hl, hmv⟩
      have hnr : rowOf w2 (N + 3 + 1) = none := by
        obtain ⟨⟨_, _, _, lv, hr, _, _⟩, _, _⟩ := HX.out.2.2.2.later HB2.out
        have h4 := (HB2.out.block _ (heap_lt HX4.out)).trans HX4.out
        exact rowOf_row h4
      have HRES : Hid (Stepped fu z (DiskM w' st fu true d mb M) (∃ c, DiskM w' (wrap64 (st + 1)) (dec fu) false d mb (M ++ [(nm, N + 3 + 1, c)]) ∧ FileOwn w' (N + 3 + 1) base [] (laid [] n B)) ∧ Moved d mb (N + 3 + 1) w w') := Lib.hid ⟨by
        rcases hl with ⟨q1, q2, q3, _⟩ | ⟨q1, q2, M', hpt, q3, q4⟩
        · exact .inl ⟨q1, q2, q3⟩
        · rcases hpt with ⟨p1, _⟩ | ⟨_, c', rfl⟩
          · rw [HFO.out] at p1; cases p1
          · exact .inr ⟨q1, q2, c', q3, q4⟩, (Moved.of_new hw2 hnr).trans hmv⟩
      clear hl hmv hw2 hnr
      go_wp2_with fail
      go_ret
      exact ⟨z, rfl, N + 3 + 1, by omega, HRES.out.1, HRES.out.2⟩
end Go.Proofs.YtjkkfjmloleedaaGreat
