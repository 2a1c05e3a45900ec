/- disk: Append to a file that is there -/
import Derived.Test.YtmpjjkfbojhfoaaDApp4
namespace Go.Proofs.Ytmpjjkfbojhfoaa
open Go.RowKit
set_option linter.unusedSectionVars false
variable [Zone]
variable {nm : ByteArray}
/-- the memory of Append where the file is there. -/
theorem app_old (f N : Nat) {w1 : World} (hs : w1.heap.size = N + 3) (X : World) (h : (w1.alloc (.cells #[.pointer (some ⟨f, 0, none⟩)] 72)).drew = X) :
    X.heap[N + 3]? = some (.cells #[.pointer (some ⟨f, 0, none⟩)] 72 (0, 0)) ∧ Below w1.heap.size w1 X := by
  subst h
  refine ⟨?_, ((Below.refl _ _).alloc (Nat.le_refl _) _).drew⟩
  rw [← hs]
  exact heap_alloc_new _ _
set_option maxRecDepth 100000 in
theorem Append_log (base d mb f : Nat) (M : List Ent) (st fu : Int) (S : List UInt8) (D : List Deed) (ao : Option Addr) (n cap : Nat) (B : List UInt8) (w : World) (hbs : base ≤ w.heap.size) (hnf : nameP nm.data.toList = true) (h : DiskM w st fu false d mb M) (hfo : fileOf nm M = some f) (hf : FileOwn w f base S D) (hB : IsBytes w ao n cap B) (hz : ZW w) (hn : n + (allB S D).length ≤ 1048576) (hDl : D.length ≤ 1000000) (hsm : S.length + ((D ++ [Deed.more B]).map Deed.units).sum ≤ 4294967296) :
    Calls Try.prog 12 #[.pointer (some ⟨d, 0, none⟩), .string nm, .slice ao n cap] w fun e w' => ∃ z, e = .returned (.int .i64 z) ∧ Stepped fu z (DiskM w' st fu true d mb M ∧ FileOwn w' f base S D) (DiskM w' (wrap64 (st + 1)) (dec fu) false d mb M ∧ FileOwn w' f base S (laid D n B)) ∧ Moved d mb f w w' := by
  have HDM := Lib.hid h
  obtain ⟨hfx, hmd, hd, c, hfit, hm⟩ := h
  have HF := Lib.hid hf
  have HDL := Lib.hid hDl
  have HSM := Lib.hid hsm
  have h0 := hd.cells.1
  have HNF := Lib.hid hnf
  have HFO := Lib.hid hfo
  have HZ := Lib.hid hz
  have HD := Lib.hid hd
  have HM := Lib.hid hm
  have HB := Lib.hid hB
  clear hfx hmd hd hm hB hfit hnf hfo hf hDl hsm hz
  go_enter Try.func12, Try.ntmps12
  go_wp2_with fail
  generalize hw1 : ((w.alloc (.cells #[.pointer (some ⟨d, 0, none⟩)] 27)).alloc (.cells #[.string nm] 9)).alloc (.cells #[.slice ao n cap] 23) = w1
  obtain ⟨b0, b1, b2, hB1, hS1⟩ := app_boxes d nm _ w w1 hw1
  clear hw1
  generalize hN : w.heap.size = N at b0 b1 b2 hS1 hbs ⊢
  have HD1 : Hid (DiskRow w1 d mb st fu false) := Lib.hid ((hB1.block _ HD.out.lt).trans HD.out)
  have HM1 : Hid (w1.heap[mb]? = some (.map (ents M) c)) := Lib.hid ((hB1.block _ (heap_lt HM.out)).trans HM.out)
  have h1 := HD1.out.cells.1
  have c0 : w1.cell? ⟨N, 0, none⟩ = some (.pointer (some ⟨d, 0, none⟩)) := cell_of_row _ _ _ _ _ _ b0
  have c1 : w1.cell? ⟨N + 1, 0, none⟩ = some (.string nm) := cell_of_row _ _ _ _ _ _ b1
  have c2 : w1.cell? ⟨N + 1 + 1, 0, none⟩ = some (.slice ao n cap) := cell_of_row _ _ _ _ _ _ b2
  have hlk : (Instr.lookup 61 (.map (some mb)) (.string nm) false).run Try.prog (w1.alloc (.cells #[.pointer none] 72)).drew = .ok (.pointer (some ⟨f, 0, none⟩)) (w1.alloc (.cells #[.pointer none] 72)).drew := by
    exact look_log _ mb c M ((Below.heap_alloc w1 (.cells #[.pointer none] 72) mb (heap_lt HM1.out)).trans HM1.out) HFO.out
  have hlk2 : (Instr.lookup 61 (.map (some mb)) (.string nm) false).run Try.prog w1.drew = .ok (.pointer (some ⟨f, 0, none⟩)) w1.drew := by
    exact look_log w1.drew mb c M HM1.out HFO.out
  have h1a : (w1.alloc (.cells #[.pointer none] 72)).cell? ⟨d, 0, none⟩ = some (.map (some mb)) := (World.cell?_of_block (w := w1) (Below.heap_alloc w1 _ d HD1.out.lt)).trans h1
  have HB0 := Lib.hid b0
  have HB1 := Lib.hid b1
  have HB2 := Lib.hid b2
  have HBL := Lib.hid hB1
  clear b0 b1 b2 hB1
  refine (down_any d mb st fu w1 HD1.out).mono ?_
  rintro e w' ⟨rfl, rfl⟩
  go_wp2_with fail
  go_region
  all_goals
    go_wp2_with fail
    refine (named_log _ HNF.out).mono ?_
    rintro e w' ⟨rfl, rfl⟩
    go_wp2_with fail
    generalize hX : ((w1.alloc (.cells #[.pointer (some ⟨f, 0, none⟩)] 72)).drew : World) = X
    obtain ⟨x3, xb⟩ := app_old f N hS1 X hX
    have x0 := (xb.block N (by omega)).trans HB0.out
    have x1 := (xb.block (N + 1) (by omega)).trans HB1.out
    have x2 := (xb.block (N + 1 + 1) (by omega)).trans HB2.out
    have hbX : Below w.heap.size w X := HBL.out.trans (xb.mono HBL.out.size)
    have hfX : FileOwn X f base S D := HF.out.later hbX
    have HXX := Lib.hid (And.intro x0 (And.intro x1 (And.intro x2 x3)))
    have HX := Lib.hid (And.intro hbX (And.intro trivial (And.intro trivial hfX)))
    have y2 : X.cell? ⟨N + 1 + 1, 0, none⟩ = some (.slice ao n cap) := cell_of_row _ _ _ _ _ _ x2
    have y3 : X.cell? ⟨N + 3, 0, none⟩ = some (.pointer (some ⟨f, 0, none⟩)) := cell_of_row _ _ _ _ _ _ x3
    clear x0 x1 x2 x3 xb hbX hfX hX hlk hlk2 h1a c0 c1 c2 h1 HB0 HB1 HB2 HD1 HM1 hS1
    obtain ⟨L, hL⟩ : ∃ L, L = (allB S D).length := ⟨_, rfl⟩
    have hLn : n + L ≤ 1048576 := by rw [hL]; exact hn
    have HL := Lib.hid hL
    clear hL
    have hwr : IntKind.i64.wrap (1048576 - (L : Int)) = 1048576 - (L : Int) := IntWalk.i64_in _ (by omega)
    have hcm : ¬ (1048576 - (L : Int) < (n : Int)) := by omega
    go_region_held3 (fun w' => w'.cell? ⟨N + 1 + 1, 0, none⟩ = some (.slice ao n cap) ∧ w'.cell? ⟨N + 3, 0, none⟩ = some (.pointer (some ⟨f, 0, none⟩)) ∧ Below X.heap.size X w')
      (first
        | (exact ⟨y2, y3, (Below.refl _ _).drew⟩)
        | (exact ⟨(hb2.cell (block_lt_of_cell y2)).trans y2, (hb2.cell (block_lt_of_cell y3)).trans y3, hb2⟩)
        | (go_split_ands; assumption))
      (first
        | (go_at_call 36
           go_split_ands
           refine (bytes_any f S D _ (HX.out.2.2.2.at.later (by assumption))).mono ?_
           rintro e w2 ⟨v, rfl, hown, hb1⟩
           have hb2 : Below X.heap.size X w2 := Below.trans (by assumption) (hb1.mono (Below.size (by assumption)))
           obtain ⟨av, cv, hv, _⟩ := hown.bytes
           rw [← HL.out] at hv
           subst hv))
    all_goals
      go_split_ands
      have hb2 : Below X.heap.size X w2 := by assumption
      have z0 : w2.cell? ⟨N, 0, none⟩ = some (.pointer (some ⟨d, 0, none⟩)) := cell_of_row _ _ _ _ _ _ ((hb2.block _ (heap_lt HXX.out.1)).trans HXX.out.1)
      have HB2 := Lib.hid hb2
      clear hb2
      go_wp2_with fail
      have hw2 : Below w.heap.size w w2 := HX.out.1.trans (HB2.out.mono HX.out.1.size)
      refine (app_step base (N + 3) N (N + 1) (N + 1 + 1) d mb f M st fu S D ao n cap B w2 (Nat.le_trans (by omega) hw2.size) ((HB2.out.block _ (heap_lt HXX.out.2.2.2)).trans HXX.out.2.2.2) ((HB2.out.block _ (heap_lt HXX.out.1)).trans HXX.out.1)
        ((HB2.out.block _ (heap_lt HXX.out.2.1)).trans HXX.out.2.1) ((HB2.out.block _ (heap_lt HXX.out.2.2.1)).trans HXX.out.2.2.1) (HDM.out.later hw2) (.inl HFO.out) (HX.out.2.2.2.later HB2.out) (HB.out.later hw2) (HZ.out.mono hw2.size) (by omega) HDL.out HSM.out).mono ?_
      rintro e w' ⟨z, rfl, hl, hmv⟩
      have HRES : Hid (Stepped fu z (DiskM w' st fu true d mb M ∧ FileOwn w' f base S D) (DiskM w' (wrap64 (st + 1)) (dec fu) false d mb M ∧ FileOwn w' f base S (laid D n B)) ∧ Moved d mb f w w') := Lib.hid ⟨by
        rcases hl with ⟨q1, q2, q3⟩ | ⟨q1, q2, M', hpt, q3, q4⟩
        · exact .inl ⟨q1, q2, q3⟩
        · rcases hpt with ⟨_, rfl⟩ | ⟨p1, _⟩
          · exact .inr ⟨q1, q2, q3, q4⟩
          · (rw [HFO.out] at p1; cases p1), (Moved.of_below hw2 HF.out.at.lt).trans hmv⟩
      clear hl hmv hw2
      go_wp2_with fail
      go_ret
      exact ⟨z, rfl, HRES.out.1, HRES.out.2⟩
end Go.Proofs.Ytmpjjkfbojhfoaa
