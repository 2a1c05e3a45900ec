/- disk: what Append does behind the step, with bytes: the walk -/
import Derived.Test.YtgbpgmbnihfkkaaDApp
namespace Go.Proofs.Ytgbpgmbnihfkkaa
open Go.RowKit
set_option linter.unusedSectionVars false
variable [Zone]
variable {nm : ByteArray}

theorem app_put (base d mb f : Nat) (M : List Ent) (st fu : Int) (S : List UInt8) (D : List Deed) (w : World) (hd : DiskRow w d mb st fu false) (hm : MapHas w mb M) (hfo : CanPut nm f M) (hf : FileOwn w f base S D) :
    ∃ (W : World) (M' : List Ent), PutTo nm f M M' ∧ (Instr.mapUpdate 40 (.map (some mb)) (.string nm) (.pointer (some ⟨f, 0, none⟩))).run Try.prog w.drew = .ok () W ∧ DiskRow W d mb st fu false ∧ MapHas W mb M' ∧ FileOwn W f base S D ∧ Moved d mb f w W ∧
      (∀ (j : Nat) (cs : Array Value) (t : TypeId) (fr : Nat × Nat), w.heap[j]? = some (.cells cs t fr) → W.heap[j]? = some (.cells cs t fr)) ∧ W.heap.size = w.heap.size ∧ (∀ j off v, w.cell? ⟨j, off, none⟩ = some v → W.heap[j]? = w.heap[j]?) := by
  obtain ⟨o, M', hpt, ho⟩ := put_free w mb f M hm hfo
  obtain ⟨cc, hfit, hmc⟩ := hm
  have hne : ∀ {j : Nat} {cs : Array Value} {t : TypeId} {fr : Nat × Nat}, w.heap[j]? = some (.cells cs t fr) → j ≠ mb := by
    rintro j cs t fr h rfl
    rw [hmc] at h
    cases h
  exact ⟨setObjAt w.drew mb o, M', hpt, (ho w.drew rfl).1, (heap_setObjAt w.drew mb d o (hne hd)).trans hd, (ho w.drew rfl).2,
    hf.moved (· = mb) (fun j e => e ▸ map_plain hmc) (hf.at.ne_map hmc) (fun c t j e h => hne h e) (fun j _ hn => heap_setObjAt w.drew mb j o hn),
    ⟨rfl, rfl, rfl, by unfold setObjAt; simp, fun j _ _ h _ _ => heap_setObjAt w.drew mb j o h, fun k hk => .inl (by rwa [rowOf_same (w := w) (heap_setObjAt w.drew mb f o (hf.at.ne_map hmc))] at hk)⟩, fun j cs t fr h => (heap_setObjAt w.drew mb j o (hne h)).trans h, by unfold setObjAt; simp, fun j off v hc => heap_setObjAt w.drew mb j o (by rintro rfl; simp [World.cell?, hmc] at hc)⟩
set_option maxRecDepth 100000 in
set_option maxHeartbeats 2000000 in
theorem AppDo_more (base p bd bn bb d mb f : Nat) (M : List Ent) (st fu : Int) (S : List UInt8) (D : List Deed) (ao : Option Addr) (n cap : Nat) (B : List UInt8) (w : World) (hbs : base ≤ w.heap.size)
    (hp : w.heap[p]? = some (.cells #[.pointer (some ⟨f, 0, none⟩)] 55 (0, 0))) (hbd : w.heap[bd]? = some (.cells #[.pointer (some ⟨d, 0, none⟩)] 22 (0, 0)))
    (hbn : w.heap[bn]? = some (.cells #[.string nm] 9 (0, 0))) (hbb : w.heap[bb]? = some (.cells #[.slice ao n cap] 30 (0, 0)))
    (hd : DiskRow w d mb st fu false) (hm : MapHas w mb M) (hfo : CanPut nm f M) (hf : FileOwn w f base S D) (hB : IsBytes w ao n cap B) (hz : ZW w) (hn0 : 0 < n) (hn : n ≤ 2147483648) (hD : D.length ≤ 1000000)
    (hfit : fitsD S (D ++ [Deed.more B])) (hsm : S.length + ((D ++ [Deed.more B]).map Deed.units).sum ≤ 4294967296) :
    Calls Try.prog 27 #[.pointer (some ⟨p, 0, none⟩), .pointer (some ⟨bd, 0, none⟩), .pointer (some ⟨bn, 0, none⟩), .pointer (some ⟨bb, 0, none⟩)] w
      fun e w' => e = .returned (.tuple #[]) ∧ (∃ M', PutTo nm f M M' ∧ DiskRow w' d mb st fu false ∧ MapHas w' mb M' ∧ FileOwn w' f base S (D ++ [Deed.more B]) ∧ Moved d mb f w w') := by
  have p0 : w.cell? ⟨p, 0, none⟩ = some (.pointer (some ⟨f, 0, none⟩)) := cell_of_row _ _ _ _ _ _ hp
  have p1 : w.cell? ⟨bd, 0, none⟩ = some (.pointer (some ⟨d, 0, none⟩)) := cell_of_row _ _ _ _ _ _ hbd
  have p2 : w.cell? ⟨bn, 0, none⟩ = some (.string nm) := cell_of_row _ _ _ _ _ _ hbn
  have h0 := hd.cells.1
  obtain ⟨W, M', hpt, hpu, hd2, hm2, ⟨⟨ao2, n2, cap2, lv, hr, hs, hl⟩, _, _⟩, hmv, hty, hsz, hcl⟩ := app_put base d mb f M st fu S D w hd hm hfo hf
  have HPT := Lib.hid hpt
  have HZ : Hid (ZW W) := Lib.hid (hz.mono (Nat.le_of_eq hsz.symm))
  have hp' := hty _ _ _ _ hp
  have hbb' := hty _ _ _ _ hbb
  have p3 : W.cell? ⟨bb, 0, none⟩ = some (.slice ao n cap) := cell_of_row _ _ _ _ _ _ hbb'
  have hB' : IsBytes W ao n cap B := hB.moved (fun j off v hc => hcl j off _ hc)
  obtain ⟨g0, hg0⟩ : ∃ g, g = W.heap.size := ⟨_, rfl⟩
  have HS := Lib.hid (fun (w' : World) (hg : W.grownBy w' lv.ownBlock) => appS hp' hbb' hr hl hg)
  have HE := Lib.hid (fun (w' : World) (v' : Value) (hg : W.grownBy w' lv.ownBlock) (ho' : OwnD w' base v' (D ++ [Deed.more B])) (hrw : ∀ k, v'.ownBlock = some k → lv.ownBlock = some k ∨ W.heap.size ≤ k) => app_end hr hs hl hd2 hm2 hg ho' hrw hfit hsm)
  have HB := Lib.hid hB'
  have HLEN : Hid ((D ++ [Deed.more B]).length = D.length + 1) := Lib.hid (by simp)
  have hf1 : W.cell? ⟨f, 1, none⟩ = some lv := cell_of_row _ _ _ _ _ _ hr
  have HL := Lib.hid hl
  have HD := Lib.hid hD
  have HMV := Lib.hid hmv
  have hbw : base ≤ W.heap.size := by rw [hsz]; exact hbs
  have HBW := Lib.hid hbw
  clear hfo hz hpt hd hm hf hB hbb hbd hbn hp hfit hsm hr hs hl hd2 hm2 hp' hbb' hB' hD hmv hty hsz hcl hbw hbs hg0 g0
  go_enter Try.func27, Try.ntmps27
  go_wp2
  go_region
  go_wp2_with fail
  refine wp_region_held_drew (S := fun w' => w'.cell? ⟨p, 0, none⟩ = some (.pointer (some ⟨f, 0, none⟩)) ∧ w'.cell? ⟨bb, 0, none⟩ = some (.slice ao n cap) ∧ w'.frozen? ⟨f, 1, none⟩ = false) (by kernel_rfl) ?hS0 (fun hHeld => ?_)
  case hS0 => (exact (HS.out _ (below_grownBy (Below.refl _ _).drew _)).1)
  refine wpAnyH_take (i := 0) (v := ?v1) rfl (by kernel_rfl) (by kernel_rfl) (by kernel_rfl) (fun _ _ _ h => h) (Or.inl ⟨?hw1, ?hy1⟩) (by assumption) ?_
  case hw1 => rfl
  case hy1 => (intro w hSw; (try dsimp only at hSw); go_simp; (first | done | with_reducible rfl))
  try simp only [Act.put, List.setIfInBounds_toArray]
  refine wpAnyH_take (i := 1) (v := ?v2) rfl (by kernel_rfl) (by kernel_rfl) (by kernel_rfl) (fun _ _ _ h => h) (Or.inl ⟨?hw2, ?hy2⟩) (by assumption) ?_
  case hw2 => rfl
  case hy2 => (intro w hSw; (try dsimp only at hSw); go_simp; (first | done | with_reducible rfl))
  try simp only [Act.put]
  refine wpAnyH_take (i := 2) (v := ?v3) rfl (by kernel_rfl) (by kernel_rfl) (by kernel_rfl) (fun _ _ _ h => h) (Or.inl ⟨?hw3, ?hy3⟩) (by assumption) ?_
  case hw3 => rfl
  case hy3 => (intro w hSw; (try dsimp only at hSw); go_simp; (first | done | with_reducible rfl))
  try simp only [Act.put]
  refine wpAnyH_take (i := 3) (v := ?v4) rfl (by kernel_rfl) (by kernel_rfl) (by kernel_rfl) (fun _ _ _ h => h) (Or.inl ⟨?hw4, ?hy4⟩) (by assumption) ?_
  case hw4 => rfl
  case hy4 => (intro w hSw; (try dsimp only at hSw); go_simp; (first | done | with_reducible rfl))
  try simp only [Act.put]
  refine wpAnyH_take (i := 5) (v := ?v5) rfl (by kernel_rfl) (by kernel_rfl) (by kernel_rfl) (fun _ _ _ h => h) (Or.inl ⟨?hw5, ?hy5⟩) (by assumption) ?_
  case hw5 => rfl
  case hy5 => (intro w hSw; (try dsimp only at hSw); go_simp; (first | done | with_reducible rfl))
  try simp only [Act.put]
  refine wpAnyH_ready (rs := [4, 6]) (by kernel_rfl) (by simp) ?_
  refine AllReadyH.cons (o := _) rfl (fun K hK => ?step6) ?_
  case step6 =>
    go_simp
    refine hK.out _ _ ?hS6 (fun hHeld => ?_)
    case hS6 => (first | (exact (HS.out _ (below_grownBy (Below.refl _ _).drew _)).1) | (exact (HS.out _ hgn).1) | (exact (HS.out _ hgn).2.1 _) | (exact (HS.out _ (grownBy_trans hgn (below_grownBy ((Below.refl _ _).alloc (Nat.le_refl _) _) _))).1))
    clear hK K
    try simp only [Act.put, List.setIfInBounds_toArray, List.set_cons_zero, List.set_cons_succ]
    refine wpAnyH_ready (rs := [6]) (by kernel_rfl) (by simp) ?_
    refine AllReadyH.cons (o := _) rfl (fun K hK => ?step7) ?_
    case step7 =>
      go_simp
      refine (CloneB_any ao n cap B _ (HB.out.later (Below.refl _ _).drew) (by omega)).mono ?_
      rintro e w1 ⟨v, rfl, hown, hb1⟩
      have hbW : Below W.heap.size W w1 := Below.trans (Below.refl _ W).drew hb1
      have hgn : W.grownBy w1 lv.ownBlock := below_grownBy hbW _
      have hf1a : w1.cell? ⟨f, 1, none⟩ = some lv := (hbW.cell (block_lt_of_cell hf1)).trans hf1
      have hf1b : ∀ o, (w1.alloc o).cell? ⟨f, 1, none⟩ = some lv := fun o => ((Below.alloc hbW hbW.size o).cell (block_lt_of_cell hf1)).trans hf1
      (try dsimp only)
      refine hK.out _ _ ?hS7 (fun hHeld => ?_)
      case hS7 => (first | (exact (HS.out _ (below_grownBy (Below.refl _ _).drew _)).1) | (exact (HS.out _ hgn).1) | (exact (HS.out _ hgn).2.1 _) | (exact (HS.out _ (grownBy_trans hgn (below_grownBy ((Below.refl _ _).alloc (Nat.le_refl _) _) _))).1))
      clear hK K
      try simp only [Act.put, List.setIfInBounds_toArray, List.set_cons_zero, List.set_cons_succ]
      refine wpAnyH_take (i := 7) (v := ?v8) rfl (by kernel_rfl) (by kernel_rfl) (by kernel_rfl) (fun _ _ _ h => h) (Or.inl ⟨?hw8, ?hy8⟩) (by assumption) ?_
      case hw8 => rfl
      case hy8 => (intro w hSw; (try dsimp only at hSw); go_simp; (first | done | with_reducible rfl))
      try simp only [Act.put, List.setIfInBounds_toArray]
      refine wpAnyH_ready (rs := [8]) (by kernel_rfl) (by simp) ?_
      refine AllReadyH.cons (o := _) rfl (fun K hK => ?step9) ?_
      case step9 =>
        go_simp
        refine hK.out _ _ ?hS9 (fun hHeld => ?_)
        case hS9 => (first | (exact (HS.out _ (below_grownBy (Below.refl _ _).drew _)).1) | (exact (HS.out _ hgn).1) | (exact (HS.out _ hgn).2.1 _) | (exact (HS.out _ (grownBy_trans hgn (below_grownBy ((Below.refl _ _).alloc (Nat.le_refl _) _) _))).1))
        clear hK K
        try simp only [Act.put, List.setIfInBounds_toArray, List.set_cons_zero, List.set_cons_succ]
        refine wpAnyH_ready (rs := [9]) (by kernel_rfl) (by simp) ?_
        refine AllReadyH.cons (o := _) rfl (fun K hK => ?step10) ?_
        case step10 =>
          rw [if_pos (by rfl)]
          refine opwp_append_deed _ _ rfl base lv D rfl (HL.out.later ((Below.alloc hbW hbW.size _))) w1.heap.size 1 rfl (.iface 64 v) (.more B) (cell_of_row _ _ _ _ _ _ (heap_alloc_new _ _)) ((IsDeed.of_own hown).later ((Below.refl _ _).alloc (Nat.le_refl _) _)) (ZV.of_own hown HZ.out) HD.out (Nat.le_trans HBW.out (Below.alloc hbW hbW.size _).size) ?_
          intro v2 w2 ho2 hg2 hrw2
          have HRW : Hid (∀ k, v2.ownBlock = some k → lv.ownBlock = some k ∨ W.heap.size ≤ k) := Lib.hid (fun k hk => (hrw2 k hk).imp id (Nat.le_trans (Below.alloc hbW hbW.size _).size))
          clear hrw2
          have hgn : W.grownBy w2 lv.ownBlock := grownBy_trans (below_grownBy ((Below.alloc hbW hbW.size _)) _) hg2
          obtain ⟨al2, cl2, hv2, _⟩ := ho2.deeds
          rw [HLEN.out] at hv2
          subst hv2
          have HO2 := Lib.hid ho2
          have hf1c := (HS.out _ hgn).2.2
          clear ho2
          refine hK.out _ _ ?hS10 (fun hHeld => ?_)
          case hS10 => (first | (exact (HS.out _ (below_grownBy (Below.refl _ _).drew _)).1) | (exact (HS.out _ hgn).1) | (exact (HS.out _ hgn).2.1 _) | (exact (HS.out _ (grownBy_trans hgn (below_grownBy ((Below.refl _ _).alloc (Nat.le_refl _) _) _))).1))
          clear hK K
          try simp only [Act.put, List.setIfInBounds_toArray]
          refine wpAnyH_take (i := 10) (v := ?v11) rfl (by kernel_rfl) (by kernel_rfl) (by kernel_rfl) (fun _ _ _ h => h) (Or.inl ⟨?hw11, ?hy11⟩) (by assumption) ?_
          case hw11 => rfl
          case hy11 => (intro w hSw; (try dsimp only at hSw); go_simp; (first | done | with_reducible rfl))
          try simp only [Act.put]
          refine wpAnyH_take (i := 11) (v := ?v12) rfl (by kernel_rfl) (by kernel_rfl) (by kernel_rfl) (fun _ _ _ h => h) (Or.inl ⟨?hw12, ?hy12⟩) (by assumption) ?_
          case hw12 => rfl
          case hy12 => (intro w hSw; (try dsimp only at hSw); go_simp; (first | done | with_reducible rfl))
          try simp only [Act.put]
          refine wpAnyH_ready (rs := [12]) (by kernel_rfl) (by simp) ?_
          refine AllReadyH.cons (o := _) rfl (fun K hK => ?step13) ?_
          case step13 =>
            go_simp
            refine hK.out _ _ ?hS13 (fun hHeld => ?_)
            case hS13 => (first | (exact (HS.out _ (below_grownBy (Below.refl _ _).drew _)).1) | (exact (HS.out _ hgn).1) | (exact (HS.out _ hgn).2.1 _) | (exact (HS.out _ (grownBy_trans hgn (below_grownBy ((Below.refl _ _).alloc (Nat.le_refl _) _) _))).1))
            clear hK K
            try simp only [Act.put, List.setIfInBounds_toArray, List.set_cons_zero, List.set_cons_succ]
            refine wpAnyH_done (by kernel_rfl) ?_ _
            go_wp2_with fail
            go_end0
            obtain ⟨e1, e2, e3, e4⟩ := HE.out w2 _ hgn HO2.out HRW.out
            exact ⟨rfl, M', HPT.out, e1, e2, e3, HMV.out.trans e4⟩
          exact AllReadyH.nil
        exact AllReadyH.nil
      exact AllReadyH.nil
    exact AllReadyH.nil
  refine AllReadyH.cons (o := _) rfl (fun K hK => ?step14) ?_
  case step14 =>
    go_simp
    refine (CloneB_any ao n cap B _ (HB.out.later (Below.refl _ _).drew) (by omega)).mono ?_
    rintro e w1 ⟨v, rfl, hown, hb1⟩
    have hbW : Below W.heap.size W w1 := Below.trans (Below.refl _ W).drew hb1
    have hgn : W.grownBy w1 lv.ownBlock := below_grownBy hbW _
    have hf1a : w1.cell? ⟨f, 1, none⟩ = some lv := (hbW.cell (block_lt_of_cell hf1)).trans hf1
    have hf1b : ∀ o, (w1.alloc o).cell? ⟨f, 1, none⟩ = some lv := fun o => ((Below.alloc hbW hbW.size o).cell (block_lt_of_cell hf1)).trans hf1
    (try dsimp only)
    refine hK.out _ _ ?hS14 (fun hHeld => ?_)
    case hS14 => (first | (exact (HS.out _ (below_grownBy (Below.refl _ _).drew _)).1) | (exact (HS.out _ hgn).1) | (exact (HS.out _ hgn).2.1 _) | (exact (HS.out _ (grownBy_trans hgn (below_grownBy ((Below.refl _ _).alloc (Nat.le_refl _) _) _))).1))
    clear hK K
    try simp only [Act.put, List.setIfInBounds_toArray, List.set_cons_zero, List.set_cons_succ]
    refine wpAnyH_take (i := 7) (v := ?v15) rfl (by kernel_rfl) (by kernel_rfl) (by kernel_rfl) (fun _ _ _ h => h) (Or.inl ⟨?hw15, ?hy15⟩) (by assumption) ?_
    case hw15 => rfl
    case hy15 => (intro w hSw; (try dsimp only at hSw); go_simp; (first | done | with_reducible rfl))
    try simp only [Act.put, List.setIfInBounds_toArray]
    refine wpAnyH_ready (rs := [4, 8]) (by kernel_rfl) (by simp) ?_
    refine AllReadyH.cons (o := _) rfl (fun K hK => ?step16) ?_
    case step16 =>
      go_simp
      refine hK.out _ _ ?hS16 (fun hHeld => ?_)
      case hS16 => (first | (exact (HS.out _ (below_grownBy (Below.refl _ _).drew _)).1) | (exact (HS.out _ hgn).1) | (exact (HS.out _ hgn).2.1 _) | (exact (HS.out _ (grownBy_trans hgn (below_grownBy ((Below.refl _ _).alloc (Nat.le_refl _) _) _))).1))
      clear hK K
      try simp only [Act.put, List.setIfInBounds_toArray, List.set_cons_zero, List.set_cons_succ]
      refine wpAnyH_ready (rs := [8]) (by kernel_rfl) (by simp) ?_
      refine AllReadyH.cons (o := _) rfl (fun K hK => ?step17) ?_
      case step17 =>
        go_simp
        refine hK.out _ _ ?hS17 (fun hHeld => ?_)
        case hS17 => (first | (exact (HS.out _ (below_grownBy (Below.refl _ _).drew _)).1) | (exact (HS.out _ hgn).1) | (exact (HS.out _ hgn).2.1 _) | (exact (HS.out _ (grownBy_trans hgn (below_grownBy ((Below.refl _ _).alloc (Nat.le_refl _) _) _))).1))
        clear hK K
        try simp only [Act.put, List.setIfInBounds_toArray, List.set_cons_zero, List.set_cons_succ]
        refine wpAnyH_ready (rs := [9]) (by kernel_rfl) (by simp) ?_
        refine AllReadyH.cons (o := _) rfl (fun K hK => ?step18) ?_
        case step18 =>
          rw [if_pos (by rfl)]
          refine opwp_append_deed _ _ rfl base lv D rfl (HL.out.later ((Below.alloc hbW hbW.size _))) w1.heap.size 1 rfl (.iface 64 v) (.more B) (cell_of_row _ _ _ _ _ _ (heap_alloc_new _ _)) ((IsDeed.of_own hown).later ((Below.refl _ _).alloc (Nat.le_refl _) _)) (ZV.of_own hown HZ.out) HD.out (Nat.le_trans HBW.out (Below.alloc hbW hbW.size _).size) ?_
          intro v2 w2 ho2 hg2 hrw2
          have HRW : Hid (∀ k, v2.ownBlock = some k → lv.ownBlock = some k ∨ W.heap.size ≤ k) := Lib.hid (fun k hk => (hrw2 k hk).imp id (Nat.le_trans (Below.alloc hbW hbW.size _).size))
          clear hrw2
          have hgn : W.grownBy w2 lv.ownBlock := grownBy_trans (below_grownBy ((Below.alloc hbW hbW.size _)) _) hg2
          obtain ⟨al2, cl2, hv2, _⟩ := ho2.deeds
          rw [HLEN.out] at hv2
          subst hv2
          have HO2 := Lib.hid ho2
          have hf1c := (HS.out _ hgn).2.2
          clear ho2
          refine hK.out _ _ ?hS18 (fun hHeld => ?_)
          case hS18 => (first | (exact (HS.out _ (below_grownBy (Below.refl _ _).drew _)).1) | (exact (HS.out _ hgn).1) | (exact (HS.out _ hgn).2.1 _) | (exact (HS.out _ (grownBy_trans hgn (below_grownBy ((Below.refl _ _).alloc (Nat.le_refl _) _) _))).1))
          clear hK K
          try simp only [Act.put, List.setIfInBounds_toArray]
          refine wpAnyH_take (i := 10) (v := ?v19) rfl (by kernel_rfl) (by kernel_rfl) (by kernel_rfl) (fun _ _ _ h => h) (Or.inl ⟨?hw19, ?hy19⟩) (by assumption) ?_
          case hw19 => rfl
          case hy19 => (intro w hSw; (try dsimp only at hSw); go_simp; (first | done | with_reducible rfl))
          try simp only [Act.put]
          refine wpAnyH_take (i := 11) (v := ?v20) rfl (by kernel_rfl) (by kernel_rfl) (by kernel_rfl) (fun _ _ _ h => h) (Or.inl ⟨?hw20, ?hy20⟩) (by assumption) ?_
          case hw20 => rfl
          case hy20 => (intro w hSw; (try dsimp only at hSw); go_simp; (first | done | with_reducible rfl))
          try simp only [Act.put]
          refine wpAnyH_ready (rs := [12]) (by kernel_rfl) (by simp) ?_
          refine AllReadyH.cons (o := _) rfl (fun K hK => ?step21) ?_
          case step21 =>
            go_simp
            refine hK.out _ _ ?hS21 (fun hHeld => ?_)
            case hS21 => (first | (exact (HS.out _ (below_grownBy (Below.refl _ _).drew _)).1) | (exact (HS.out _ hgn).1) | (exact (HS.out _ hgn).2.1 _) | (exact (HS.out _ (grownBy_trans hgn (below_grownBy ((Below.refl _ _).alloc (Nat.le_refl _) _) _))).1))
            clear hK K
            try simp only [Act.put, List.setIfInBounds_toArray, List.set_cons_zero, List.set_cons_succ]
            refine wpAnyH_done (by kernel_rfl) ?_ _
            go_wp2_with fail
            go_end0
            obtain ⟨e1, e2, e3, e4⟩ := HE.out w2 _ hgn HO2.out HRW.out
            exact ⟨rfl, M', HPT.out, e1, e2, e3, HMV.out.trans e4⟩
          exact AllReadyH.nil
        exact AllReadyH.nil
      exact AllReadyH.nil
    refine AllReadyH.cons (o := _) rfl (fun K hK => ?step22) ?_
    case step22 =>
      go_simp
      refine hK.out _ _ ?hS22 (fun hHeld => ?_)
      case hS22 => (first | (exact (HS.out _ (below_grownBy (Below.refl _ _).drew _)).1) | (exact (HS.out _ hgn).1) | (exact (HS.out _ hgn).2.1 _) | (exact (HS.out _ (grownBy_trans hgn (below_grownBy ((Below.refl _ _).alloc (Nat.le_refl _) _) _))).1))
      clear hK K
      try simp only [Act.put, List.setIfInBounds_toArray, List.set_cons_zero, List.set_cons_succ]
      refine wpAnyH_ready (rs := [4]) (by kernel_rfl) (by simp) ?_
      refine AllReadyH.cons (o := _) rfl (fun K hK => ?step23) ?_
      case step23 =>
        go_simp
        refine hK.out _ _ ?hS23 (fun hHeld => ?_)
        case hS23 => (first | (exact (HS.out _ (below_grownBy (Below.refl _ _).drew _)).1) | (exact (HS.out _ hgn).1) | (exact (HS.out _ hgn).2.1 _) | (exact (HS.out _ (grownBy_trans hgn (below_grownBy ((Below.refl _ _).alloc (Nat.le_refl _) _) _))).1))
        clear hK K
        try simp only [Act.put, List.setIfInBounds_toArray, List.set_cons_zero, List.set_cons_succ]
        refine wpAnyH_ready (rs := [9]) (by kernel_rfl) (by simp) ?_
        refine AllReadyH.cons (o := _) rfl (fun K hK => ?step24) ?_
        case step24 =>
          rw [if_pos (by rfl)]
          refine opwp_append_deed _ _ rfl base lv D rfl (HL.out.later ((Below.alloc hbW hbW.size _))) w1.heap.size 1 rfl (.iface 64 v) (.more B) (cell_of_row _ _ _ _ _ _ (heap_alloc_new _ _)) ((IsDeed.of_own hown).later ((Below.refl _ _).alloc (Nat.le_refl _) _)) (ZV.of_own hown HZ.out) HD.out (Nat.le_trans HBW.out (Below.alloc hbW hbW.size _).size) ?_
          intro v2 w2 ho2 hg2 hrw2
          have HRW : Hid (∀ k, v2.ownBlock = some k → lv.ownBlock = some k ∨ W.heap.size ≤ k) := Lib.hid (fun k hk => (hrw2 k hk).imp id (Nat.le_trans (Below.alloc hbW hbW.size _).size))
          clear hrw2
          have hgn : W.grownBy w2 lv.ownBlock := grownBy_trans (below_grownBy ((Below.alloc hbW hbW.size _)) _) hg2
          obtain ⟨al2, cl2, hv2, _⟩ := ho2.deeds
          rw [HLEN.out] at hv2
          subst hv2
          have HO2 := Lib.hid ho2
          have hf1c := (HS.out _ hgn).2.2
          clear ho2
          refine hK.out _ _ ?hS24 (fun hHeld => ?_)
          case hS24 => (first | (exact (HS.out _ (below_grownBy (Below.refl _ _).drew _)).1) | (exact (HS.out _ hgn).1) | (exact (HS.out _ hgn).2.1 _) | (exact (HS.out _ (grownBy_trans hgn (below_grownBy ((Below.refl _ _).alloc (Nat.le_refl _) _) _))).1))
          clear hK K
          try simp only [Act.put, List.setIfInBounds_toArray]
          refine wpAnyH_take (i := 10) (v := ?v25) rfl (by kernel_rfl) (by kernel_rfl) (by kernel_rfl) (fun _ _ _ h => h) (Or.inl ⟨?hw25, ?hy25⟩) (by assumption) ?_
          case hw25 => rfl
          case hy25 => (intro w hSw; (try dsimp only at hSw); go_simp; (first | done | with_reducible rfl))
          try simp only [Act.put]
          refine wpAnyH_take (i := 11) (v := ?v26) rfl (by kernel_rfl) (by kernel_rfl) (by kernel_rfl) (fun _ _ _ h => h) (Or.inl ⟨?hw26, ?hy26⟩) (by assumption) ?_
          case hw26 => rfl
          case hy26 => (intro w hSw; (try dsimp only at hSw); go_simp; (first | done | with_reducible rfl))
          try simp only [Act.put]
          refine wpAnyH_ready (rs := [12]) (by kernel_rfl) (by simp) ?_
          refine AllReadyH.cons (o := _) rfl (fun K hK => ?step27) ?_
          case step27 =>
            go_simp
            refine hK.out _ _ ?hS27 (fun hHeld => ?_)
            case hS27 => (first | (exact (HS.out _ (below_grownBy (Below.refl _ _).drew _)).1) | (exact (HS.out _ hgn).1) | (exact (HS.out _ hgn).2.1 _) | (exact (HS.out _ (grownBy_trans hgn (below_grownBy ((Below.refl _ _).alloc (Nat.le_refl _) _) _))).1))
            clear hK K
            try simp only [Act.put, List.setIfInBounds_toArray, List.set_cons_zero, List.set_cons_succ]
            refine wpAnyH_done (by kernel_rfl) ?_ _
            go_wp2_with fail
            go_end0
            obtain ⟨e1, e2, e3, e4⟩ := HE.out w2 _ hgn HO2.out HRW.out
            exact ⟨rfl, M', HPT.out, e1, e2, e3, HMV.out.trans e4⟩
          exact AllReadyH.nil
        exact AllReadyH.nil
      exact AllReadyH.nil
    exact AllReadyH.nil
  exact AllReadyH.nil
end Go.Proofs.Ytgbpgmbnihfkkaa
