/- disk: what Append does behind the step, with bytes: the walk -/
import Derived.Test.YtdglaacjefcfdaaDApp2
namespace Go.Proofs.Ytdglaacjefcfdaa
open Go.RowKit
theorem app_put (base d mb f : Nat) (st fu : Int) (S : List UInt8) (D : List Deed) (w : World) (hd : DiskRow w d mb st fu false) (hm : IsMapFree w mb f) (hf : FileOwn w f base S D) :
    ∃ W : World, (Instr.mapUpdate 60 (.map (some mb)) (.string logB) (.pointer (some ⟨f, 0, none⟩))).run Try.prog w.drew = .ok () W ∧ DiskRow W d mb st fu false ∧ IsMapLog W mb f ∧ FileOwn W f base S D ∧ Moved d mb f base w W ∧
      (∀ (j : Nat) (cs : Array Value) (t : TypeId) (fr : Nat × Nat), w.heap[j]? = some (.cells cs t fr) → W.heap[j]? = some (.cells cs t fr)) ∧ W.heap.size = w.heap.size ∧ (∀ j off v, w.cell? ⟨j, off, none⟩ = some v → W.heap[j]? = w.heap[j]?) := by
  obtain ⟨o, ho⟩ := put_free w mb f hm
  have hmc : ∃ es c, w.heap[mb]? = some (.map es c) := by
    rcases hm with ⟨c, h⟩ | ⟨c, b, h⟩ <;> exact ⟨_, _, h⟩
  obtain ⟨es, cc, hmc⟩ := hmc
  have hne : ∀ {j : Nat} {cs : Array Value} {t : TypeId} {fr : Nat × Nat}, w.heap[j]? = some (.cells cs t fr) → j ≠ mb := by
    rintro j cs t fr h rfl
    rw [hmc] at h
    cases h
  exact ⟨setObjAt w.drew mb o, (ho w.drew rfl).1, (heap_setObjAt w.drew mb d o (hne hd)).trans hd, (ho w.drew rfl).2,
    hf.moved (· = mb) (fun j e => e ▸ map_plain hmc) (hf.at.ne_map hmc) (fun c t j e h => hne h e) (fun j _ hn => heap_setObjAt w.drew mb j o hn),
    ⟨rfl, rfl, rfl, by unfold setObjAt; simp, fun j _ _ h _ _ => heap_setObjAt w.drew mb j o h⟩, fun j cs t fr h => (heap_setObjAt w.drew mb j o (hne h)).trans h, by unfold setObjAt; simp, fun j off v hc => heap_setObjAt w.drew mb j o (by rintro rfl; simp [World.cell?, hmc] at hc)⟩
set_option maxRecDepth 100000 in
set_option maxHeartbeats 2000000 in
theorem AppDo_more (base p bd bn bb d mb f : Nat) (st fu : Int) (S : List UInt8) (D : List Deed) (ao : Option Addr) (n cap : Nat) (B : List UInt8) (w : World) (hbs : base ≤ w.heap.size)
    (hp : w.heap[p]? = some (.cells #[.pointer (some ⟨f, 0, none⟩)] 69 (0, 0))) (hbd : w.heap[bd]? = some (.cells #[.pointer (some ⟨d, 0, none⟩)] 25 (0, 0)))
    (hbn : w.heap[bn]? = some (.cells #[.string logB] 9 (0, 0))) (hbb : w.heap[bb]? = some (.cells #[.slice ao n cap] 24 (0, 0)))
    (hd : DiskRow w d mb st fu false) (hm : IsMapFree w mb f) (hf : FileOwn w f base S D) (hB : IsBytes w ao n cap B) (hn0 : 0 < n) (hn : n ≤ 2147483648) (hD : D.length ≤ 1000000)
    (hfit : fitsD S (D ++ [Deed.more B])) (hsm : S.length + ((D ++ [Deed.more B]).map Deed.units).sum ≤ 4294967296) :
    Calls Try.prog 34 #[.pointer (some ⟨p, 0, none⟩), .pointer (some ⟨bd, 0, none⟩), .pointer (some ⟨bn, 0, none⟩), .pointer (some ⟨bb, 0, none⟩)] w
      fun e w' => e = .returned (.tuple #[]) ∧ DiskRow w' d mb st fu false ∧ IsMapLog w' mb f ∧ FileOwn w' f base S (D ++ [Deed.more B]) ∧ Moved d mb f base w w' := by
  have p0 : w.cell? ⟨p, 0, none⟩ = some (.pointer (some ⟨f, 0, none⟩)) := cell_of_row _ _ _ _ _ _ hp
  have p1 : w.cell? ⟨bd, 0, none⟩ = some (.pointer (some ⟨d, 0, none⟩)) := cell_of_row _ _ _ _ _ _ hbd
  have p2 : w.cell? ⟨bn, 0, none⟩ = some (.string logB) := cell_of_row _ _ _ _ _ _ hbn
  have h0 := hd.cells.1
  obtain ⟨W, hpu, hd2, hm2, ⟨⟨ao2, n2, cap2, lv, hr, hs, hl⟩, _, _⟩, hmv, hty, hsz, hcl⟩ := app_put base d mb f st fu S D w hd hm hf
  have hp' := hty _ _ _ _ hp
  have hbb' := hty _ _ _ _ hbb
  have p3 : W.cell? ⟨bb, 0, none⟩ = some (.slice ao n cap) := cell_of_row _ _ _ _ _ _ hbb'
  have hB' : IsBytes W ao n cap B := hB.moved (fun j off v hc => hcl j off _ hc)
  obtain ⟨g0, hg0⟩ : ∃ g, g = W.heap.size := ⟨_, rfl⟩
  have HS := Lib.hid (fun (w' : World) (hg : W.grownBy w' lv.ownBlock) => appS hp' hbb' hr hl hg)
  have HE := Lib.hid (fun (w' : World) (v' : Value) (hg : W.grownBy w' lv.ownBlock) (ho' : OwnD w' base v' (D ++ [Deed.more B])) => app_end hr hs hl hd2 hm2 hg ho' hfit hsm)
  have HB := Lib.hid hB'
  have HLEN : Hid ((D ++ [Deed.more B]).length = D.length + 1) := Lib.hid (by simp)
  have hf1 : W.cell? ⟨f, 1, none⟩ = some lv := cell_of_row _ _ _ _ _ _ hr
  have HL := Lib.hid hl
  have HD := Lib.hid hD
  have HMV := Lib.hid hmv
  have hbw : base ≤ W.heap.size := by rw [hsz]; exact hbs
  have HBW := Lib.hid hbw
  clear hd hm hf hB hbb hbd hbn hp hfit hsm hr hs hl hd2 hm2 hp' hbb' hB' hD hmv hty hsz hcl hbw hbs hg0 g0
  generalize logB = nm at p2 hpu
  go_enter Try.func34, Try.ntmps34
  go_wp2
  go_region
  go_wp2_with fail
  go_region_held3 (fun w' => w'.cell? ⟨p, 0, none⟩ = some (.pointer (some ⟨f, 0, none⟩)) ∧ w'.cell? ⟨bb, 0, none⟩ = some (.slice ao n cap) ∧ w'.frozen? ⟨f, 1, none⟩ = false)
    (first
      | (exact (HS.out _ (below_grownBy (Below.refl _ _).drew _)).1)
      | (exact (HS.out _ hgn).1)
      | (exact (HS.out _ hgn).2.1 _)
      | (exact (HS.out _ (grownBy_trans hgn (below_grownBy ((Below.refl _ _).alloc (Nat.le_refl _) _) _))).1))
    (first
      | (rw [if_pos (by rfl)]
         refine opwp_append_deed _ _ rfl base lv D rfl (HL.out.later ((Below.alloc hbW hbW.size _))) w1.heap.size 1 rfl (.iface 79 v) (.more B) (cell_of_row _ _ _ _ _ _ (heap_alloc_new _ _)) ((IsDeed.of_own hown).later ((Below.refl _ _).alloc (Nat.le_refl _) _)) HD.out (Nat.le_trans HBW.out (Below.alloc hbW hbW.size _).size) ?_
         intro v2 w2 ho2 hg2
         have hgn : W.grownBy w2 lv.ownBlock := grownBy_trans (below_grownBy ((Below.alloc hbW hbW.size _)) _) hg2
         obtain ⟨al2, cl2, hv2, _⟩ := ho2.deeds
         rw [HLEN.out] at hv2
         subst hv2
         have HO2 := Lib.hid ho2
         have hf1c := (HS.out _ hgn).2.2
         clear ho2)
      | (go_at_call 35
         refine (CloneB_any ao n cap B _ (HB.out.later (Below.refl _ _).drew) (by omega)).mono ?_
         rintro e w1 ⟨v, rfl, hown, hb1⟩
         have hbW : Below W.heap.size W w1 := Below.trans (Below.refl _ W).drew hb1
         have hgn : W.grownBy w1 lv.ownBlock := below_grownBy hbW _
         have hf1a : w1.cell? ⟨f, 1, none⟩ = some lv := (hbW.cell (block_lt_of_cell hf1)).trans hf1
         have hf1b : ∀ o, (w1.alloc o).cell? ⟨f, 1, none⟩ = some lv := fun o => ((Below.alloc hbW hbW.size o).cell (block_lt_of_cell hf1)).trans hf1))
  all_goals
    go_wp2_with fail
    go_end0
    obtain ⟨e1, e2, e3, e4⟩ := HE.out w2 _ hgn HO2.out
    exact ⟨rfl, e1, e2, e3, HMV.out.trans e4⟩
end Go.Proofs.Ytdglaacjefcfdaa
