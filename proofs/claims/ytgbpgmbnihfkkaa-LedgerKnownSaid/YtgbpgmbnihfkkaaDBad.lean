/- disk: calls that are refused -/
import Derived.Test.YtgbpgmbnihfkkaaTwin
set_option linter.unusedSimpArgs false
set_option linter.unusedVariables false
namespace Go.Proofs.Ytgbpgmbnihfkkaa
open Go.RowKit
set_option linter.unusedSectionVars false
variable [Zone]
variable {nm : ByteArray}
set_option maxRecDepth 100000 in
theorem down_outD (d mb : Nat) (st fu : Int) (w : World) (h : DiskRow w d mb st fu true) :
    Calls Try.prog 23 #[.pointer (some ⟨d, 0, none⟩)] w fun e w' => e = .returned (.int .i64 10) ∧ w = w' := by
  obtain ⟨h0, h1, h2, h3⟩ := h.cells
  have H := Lib.hid h
  clear h h0 h1 h2
  go_enter Try.func23, Try.ntmps23
  go_wp2_with fail
  refine (none_any _ _ _ _ _ _ H.out).mono ?_
  rintro e w' ⟨rfl, rfl⟩
  go_wp2_with fail
  go_ret
  exact ⟨rfl, rfl⟩
/-- open tells c, and no file. -/
def NoOpen (d : Nat) (nv : ByteArray) (c : Int) (w : World) : Prop := ∀ w', Below w.heap.size w w' → Calls Try.prog 34 #[.pointer (some ⟨d, 0, none⟩), .string nv] w' fun e w2 => e = .returned (.tuple #[.pointer none, .int .i64 c]) ∧ w' = w2
set_option maxRecDepth 100000 in
theorem NoOpen.of_out (d mb : Nat) (st fu : Int) (nv : ByteArray) (w : World) (h : DiskRow w d mb st fu true) : NoOpen d nv 10 w := by
  intro w' hb
  have H := Lib.hid (show DiskRow w' d mb st fu true from (hb.block _ h.lt).trans h)
  clear h hb
  go_enter Try.func34, Try.ntmps34
  go_wp2_with fail
  refine (down_outD _ _ _ _ _ H.out).mono ?_
  rintro e w' ⟨rfl, rfl⟩
  go_wp2_with fail
  go_ret2
  exact ⟨rfl, rfl⟩
theorem NoOpen.of_none (d mb : Nat) (M : List Ent) (st fu : Int) (w : World) (h : DiskM w st fu false d mb M) (hfo : fileOf nm M = none) : NoOpen d nm 6 w := by
  obtain ⟨c, hm⟩ := h.map
  exact fun w' hb => open_none d mb c M st fu w' ((hb.block _ h.2.2.1.lt).trans h.2.2.1) ((hb.block _ (heap_lt hm)).trans hm) hfo
set_option maxRecDepth 100000 in
theorem Cut_ref (d : Nat) (c : Int) (z : Int) (w : World) (hc : c = 6 ∨ c = 10) (HO : NoOpen d nm c w) :
    Calls Try.prog 32 #[.pointer (some ⟨d, 0, none⟩), .string nm, .int .i64 z] w fun e w' => e = .returned (.int .i64 c) ∧ Below w.heap.size w w' := by
  rcases hc with rfl | rfl
  all_goals
    have HO := Lib.hid HO
    go_enter Try.func32, Try.ntmps32
    go_wp2_with fail
    generalize hX : w.alloc (.cells #[.int .i64 z] 3) = X
    have HB : Hid (Below w.heap.size w X ∧ w.heap.size ≤ X.heap.size) := Lib.hid (by
      rw [← hX]
      first | exact ⟨Below.refl _ _, Nat.le_refl _⟩ | exact ⟨(Below.refl _ _).alloc (Nat.le_refl _) _, by simp⟩ | exact ⟨((Below.refl _ _).alloc (Nat.le_refl _) _).alloc (by simp) _, by simp; omega⟩)
    clear hX
    refine (HO.out _ HB.out.1).mono ?_
    rintro e w' ⟨rfl, rfl⟩
    go_wp2_with fail
    go_ret
    exact ⟨rfl, by first | exact HB.out.1 | exact HB.out.1.alloc HB.out.2 _⟩
set_option maxRecDepth 100000 in
theorem Sync_ref (d : Nat) (c : Int) (w : World) (hc : c = 6 ∨ c = 10) (HO : NoOpen d nm c w) :
    Calls Try.prog 18 #[.pointer (some ⟨d, 0, none⟩), .string nm] w fun e w' => e = .returned (.int .i64 c) ∧ Below w.heap.size w w' := by
  rcases hc with rfl | rfl
  all_goals
    have HO := Lib.hid HO
    go_enter Try.func18, Try.ntmps18
    go_wp2_with fail
    generalize hX : w = X
    have HB : Hid (Below w.heap.size w X ∧ w.heap.size ≤ X.heap.size) := Lib.hid (by
      rw [← hX]
      first | exact ⟨Below.refl _ _, Nat.le_refl _⟩ | exact ⟨(Below.refl _ _).alloc (Nat.le_refl _) _, by simp⟩ | exact ⟨((Below.refl _ _).alloc (Nat.le_refl _) _).alloc (by simp) _, by simp; omega⟩)
    clear hX
    refine (HO.out _ HB.out.1).mono ?_
    rintro e w' ⟨rfl, rfl⟩
    go_wp2_with fail
    go_ret
    exact ⟨rfl, by first | exact HB.out.1 | exact HB.out.1.alloc HB.out.2 _⟩
set_option maxRecDepth 100000 in
theorem Read_ref (d : Nat) (c : Int) (w : World) (hc : c = 6 ∨ c = 10) (HO : NoOpen d nm c w) :
    Calls Try.prog 12 #[.pointer (some ⟨d, 0, none⟩), .string nm] w fun e w' => e = .returned (.tuple #[.slice none 0 0, .int .i64 c]) ∧ w = w' := by
  have HO := Lib.hid (HO w (Below.refl _ _))
  rcases hc with rfl | rfl
  all_goals
    go_enter Try.func12, Try.ntmps12
    go_wp2_with fail
    refine HO.out.mono ?_
    rintro e w' ⟨rfl, rfl⟩
    go_wp2_with fail
    go_ret2
    exact ⟨rfl, rfl⟩
set_option maxRecDepth 100000 in
theorem Append_long_old (base d mb f : Nat) (M : List Ent) (st fu : Int) (S : List UInt8) (D : List Deed) (ao : Option Addr) (n cap : Nat) (B : List UInt8) (w : World) (hbs : base ≤ w.heap.size) (hnf : nameP nm.data.toList = true) (h : DiskM w st fu false d mb M) (hfo : fileOf nm M = some f) (hf : FileOwn w f base S D) (hB : IsBytes w ao n cap B) (hz : ZW w) (hn : 1048576 < n + (allB S D).length) (hDl : D.length ≤ 1000000) (hsm : S.length + unitsD D ≤ 4294967296) :
    Calls Try.prog 10 #[.pointer (some ⟨d, 0, none⟩), .string nm, .slice ao n cap] w fun e w' => e = .returned (.int .i64 3) ∧ Below w.heap.size w w' := by
  have HDM := Lib.hid h
  obtain ⟨hfx, hmd, hd, c, hfit, hm⟩ := h
  have HF := Lib.hid hf
  have HDL := Lib.hid hDl
  have h0 := hd.cells.1
  have HNF := Lib.hid hnf
  have HFO := Lib.hid hfo
  have HZ := Lib.hid hz
  have HD := Lib.hid hd
  have HM := Lib.hid hm
  have HB := Lib.hid hB
  clear hfx hmd hd hm hB hfit hnf hfo hf hDl hz
  go_enter Try.func10, Try.ntmps10
  go_wp2_with fail
  generalize hw1 : ((w.alloc (.cells #[.pointer (some ⟨d, 0, none⟩)] 22)).alloc (.cells #[.string nm] 9)).alloc (.cells #[.slice ao n cap] 30) = w1
  obtain ⟨b0, b1, b2, hB1, hS1⟩ := app_boxes d nm _ w w1 hw1
  clear hw1
  generalize hN : w.heap.size = N at b0 b1 b2 hS1 hbs ⊢
  have HD1 : Hid (DiskRow w1 d mb st fu false) := Lib.hid ((hB1.block _ HD.out.lt).trans HD.out)
  have HM1 : Hid (w1.heap[mb]? = some (.map (ents M) c)) := Lib.hid ((hB1.block _ (heap_lt HM.out)).trans HM.out)
  have h1 := HD1.out.cells.1
  have c0 : w1.cell? ⟨N, 0, none⟩ = some (.pointer (some ⟨d, 0, none⟩)) := cell_of_row _ _ _ _ _ _ b0
  have c1 : w1.cell? ⟨N + 1, 0, none⟩ = some (.string nm) := cell_of_row _ _ _ _ _ _ b1
  have c2 : w1.cell? ⟨N + 1 + 1, 0, none⟩ = some (.slice ao n cap) := cell_of_row _ _ _ _ _ _ b2
  have hlk : (Instr.lookup 40 (.map (some mb)) (.string nm) false).run Try.prog (w1.alloc (.cells #[.pointer none] 55)).drew = .ok (.pointer (some ⟨f, 0, none⟩)) (w1.alloc (.cells #[.pointer none] 55)).drew := by
    exact look_log _ mb c M ((Below.heap_alloc w1 (.cells #[.pointer none] 55) mb (heap_lt HM1.out)).trans HM1.out) HFO.out
  have hlk2 : (Instr.lookup 40 (.map (some mb)) (.string nm) false).run Try.prog w1.drew = .ok (.pointer (some ⟨f, 0, none⟩)) w1.drew := by
    exact look_log w1.drew mb c M HM1.out HFO.out
  have h1a : (w1.alloc (.cells #[.pointer none] 55)).cell? ⟨d, 0, none⟩ = some (.map (some mb)) := (World.cell?_of_block (w := w1) (Below.heap_alloc w1 _ d HD1.out.lt)).trans h1
  have HB0 := Lib.hid b0
  have HB1 := Lib.hid b1
  have HB2 := Lib.hid b2
  have HBL := Lib.hid hB1
  clear b0 b1 b2 hB1
  refine (down_any d mb st fu w1 HD1.out).mono ?_
  rintro e w' ⟨rfl, rfl⟩
  go_wp2_with fail
  go_region
  all_goals
    go_wp2_with fail
    refine (named_log _ HNF.out).mono ?_
    rintro e w' ⟨rfl, rfl⟩
    go_wp2_with fail
    generalize hX : ((w1.alloc (.cells #[.pointer (some ⟨f, 0, none⟩)] 55)).drew : World) = X
    obtain ⟨x3, xb⟩ := app_old f N hS1 X hX
    have x0 := (xb.block N (by omega)).trans HB0.out
    have x1 := (xb.block (N + 1) (by omega)).trans HB1.out
    have x2 := (xb.block (N + 1 + 1) (by omega)).trans HB2.out
    have hbX : Below w.heap.size w X := HBL.out.trans (xb.mono HBL.out.size)
    have hfX : FileOwn X f base S D := HF.out.later hbX
    have HXX := Lib.hid (And.intro x0 (And.intro x1 (And.intro x2 x3)))
    have HX := Lib.hid (And.intro hbX (And.intro trivial (And.intro trivial hfX)))
    have y2 : X.cell? ⟨N + 1 + 1, 0, none⟩ = some (.slice ao n cap) := cell_of_row _ _ _ _ _ _ x2
    have y3 : X.cell? ⟨N + 3, 0, none⟩ = some (.pointer (some ⟨f, 0, none⟩)) := cell_of_row _ _ _ _ _ _ x3
    clear x0 x1 x2 x3 xb hbX hfX hX hlk hlk2 h1a c0 c1 c2 h1 HB0 HB1 HB2 HD1 HM1 hS1
    obtain ⟨L, hL⟩ : ∃ L, L = (allB S D).length := ⟨_, rfl⟩
    have hLn : 1048576 < n + L := by rw [hL]; exact hn
    have hLb : L ≤ 4294967296 := by rw [hL, allB_run]; have := runD_length_le S D; omega
    have HL := Lib.hid hL
    clear hL
    have hwr : IntKind.i64.wrap (1048576 - (L : Int)) = 1048576 - (L : Int) := IntWalk.i64_in _ (by omega)
    have hcm : 1048576 - (L : Int) < (n : Int) := by omega
    go_region_held3 (fun w' => w'.cell? ⟨N + 1 + 1, 0, none⟩ = some (.slice ao n cap) ∧ w'.cell? ⟨N + 3, 0, none⟩ = some (.pointer (some ⟨f, 0, none⟩)) ∧ Below X.heap.size X w')
      (first
        | (exact ⟨y2, y3, (Below.refl _ _).drew⟩)
        | (exact ⟨(hb2.cell (block_lt_of_cell y2)).trans y2, (hb2.cell (block_lt_of_cell y3)).trans y3, hb2⟩)
        | (go_split_ands; assumption))
      (first
        | (go_at_call 25
           go_split_ands
           refine (bytes_any f S D _ (HX.out.2.2.2.at.later (by assumption))).mono ?_
           rintro e w2 ⟨v, rfl, hown, hb1⟩
           have hb2 : Below X.heap.size X w2 := Below.trans (by assumption) (hb1.mono (Below.size (by assumption)))
           obtain ⟨av, cv, hv, _⟩ := hown.bytes
           rw [← HL.out] at hv
           subst hv))
    all_goals
      go_split_ands
      have hb2 : Below X.heap.size X w2 := by assumption
      have z0 : w2.cell? ⟨N, 0, none⟩ = some (.pointer (some ⟨d, 0, none⟩)) := cell_of_row _ _ _ _ _ _ ((hb2.block _ (heap_lt HXX.out.1)).trans HXX.out.1)
      have HB2 := Lib.hid hb2
      clear hb2
      go_wp2_with fail
      go_ret
      exact ⟨rfl, HX.out.1.trans (HB2.out.mono HX.out.1.size)⟩
set_option maxRecDepth 100000 in
theorem Append_long_new (base d mb : Nat) (M : List Ent) (st fu : Int) (ao : Option Addr) (n cap : Nat) (B : List UInt8) (w : World) (hbs : base ≤ w.heap.size) (hnf : nameP nm.data.toList = true) (h : DiskM w st fu false d mb M) (hfo : fileOf nm M = none) (hml : M.length < 16) (hB : IsBytes w ao n cap B) (hz : ZW w) (hn : 1048576 < n) :
    Calls Try.prog 10 #[.pointer (some ⟨d, 0, none⟩), .string nm, .slice ao n cap] w fun e w' => e = .returned (.int .i64 3) ∧ Below w.heap.size w w' := by
  have HDM := Lib.hid h
  obtain ⟨hfx, hmd, hd, c, hfit, hm⟩ := h
  have h0 := hd.cells.1
  have HNF := Lib.hid hnf
  have HML := Lib.hid hml
  have HFO := Lib.hid hfo
  have HZ := Lib.hid hz
  have HD := Lib.hid hd
  have HM := Lib.hid hm
  have HB := Lib.hid hB
  have hml2 : ¬ (16 : Int) ≤ (M.length : Int) := by omega
  clear hfx hmd hd hm hB hfit hnf hfo hz
  go_enter Try.func10, Try.ntmps10
  go_wp2_with fail
  generalize hw1 : ((w.alloc (.cells #[.pointer (some ⟨d, 0, none⟩)] 22)).alloc (.cells #[.string nm] 9)).alloc (.cells #[.slice ao n cap] 30) = w1
  obtain ⟨b0, b1, b2, hB1, hS1⟩ := app_boxes d nm _ w w1 hw1
  clear hw1
  generalize hN : w.heap.size = N at b0 b1 b2 hS1 hbs ⊢
  have HD1 : Hid (DiskRow w1 d mb st fu false) := Lib.hid ((hB1.block _ HD.out.lt).trans HD.out)
  have HM1 : Hid (w1.heap[mb]? = some (.map (ents M) c)) := Lib.hid ((hB1.block _ (heap_lt HM.out)).trans HM.out)
  have h1 := HD1.out.cells.1
  have c0 : w1.cell? ⟨N, 0, none⟩ = some (.pointer (some ⟨d, 0, none⟩)) := cell_of_row _ _ _ _ _ _ b0
  have c1 : w1.cell? ⟨N + 1, 0, none⟩ = some (.string nm) := cell_of_row _ _ _ _ _ _ b1
  have c2 : w1.cell? ⟨N + 1 + 1, 0, none⟩ = some (.slice ao n cap) := cell_of_row _ _ _ _ _ _ b2
  have hlk : (Instr.lookup 40 (.map (some mb)) (.string nm) false).run Try.prog (w1.alloc (.cells #[.pointer none] 55)).drew = .ok (.pointer none) (w1.alloc (.cells #[.pointer none] 55)).drew := by
    exact look_none _ mb c M ((Below.heap_alloc w1 (.cells #[.pointer none] 55) mb (heap_lt HM1.out)).trans HM1.out) HFO.out
  have hlk2 : (Instr.lookup 40 (.map (some mb)) (.string nm) false).run Try.prog w1.drew = .ok (.pointer none) w1.drew := by
    exact look_none w1.drew mb c M HM1.out HFO.out
  have hle : ∀ ty, (Builtin.len_ #[40] ty #[.map (some mb)]).run Try.prog (w1.alloc (.cells #[.pointer none] 55)).drew = .ok (.int .i64 (M.length : Nat)) (w1.alloc (.cells #[.pointer none] 55)).drew :=
    fun ty => len_ents _ mb c M ty ((Below.heap_alloc w1 (.cells #[.pointer none] 55) mb (heap_lt HM1.out)).trans HM1.out)
  have h1a : (w1.alloc (.cells #[.pointer none] 55)).cell? ⟨d, 0, none⟩ = some (.map (some mb)) := (World.cell?_of_block (w := w1) (Below.heap_alloc w1 _ d HD1.out.lt)).trans h1
  have HB0 := Lib.hid b0
  have HB1 := Lib.hid b1
  have HB2 := Lib.hid b2
  have HBL := Lib.hid hB1
  clear b0 b1 b2 hB1
  refine (down_any d mb st fu w1 HD1.out).mono ?_
  rintro e w' ⟨rfl, rfl⟩
  go_wp2_with fail
  go_region
  all_goals
    go_wp2_with fail
    refine (named_log _ HNF.out).mono ?_
    rintro e w' ⟨rfl, rfl⟩
    go_wp2_with fail
    generalize hX : (((w1.alloc (.cells #[.pointer (some ⟨N + 3 + 1, 0, none⟩)] 55)).alloc (.cells #[.slice none 0 0, .slice none 0 0] 61)).drew : World) = X
    obtain ⟨x0, x1, x2, x3, x4, xb⟩ := app_new N hS1 w1 X d nm _ HB0.out HB1.out HB2.out rfl hX
    have hbX : Below w.heap.size w X := HBL.out.trans (xb.mono HBL.out.size)
    have hfX : FileOwn X (N + 3 + 1) base [] [] := ⟨⟨none, 0, 0, .slice none 0 0, x4, ⟨IsBytes.nil X, ZS.nil⟩, OwnD.nil X base⟩, trivial, by simp⟩
    have HX4 : Hid (FileRow X (N + 3 + 1) (.slice none 0 0) (.slice none 0 0)) := Lib.hid x4
    have HXX := Lib.hid (And.intro x0 (And.intro x1 (And.intro x2 x3)))
    have HX := Lib.hid (And.intro hbX (And.intro trivial (And.intro trivial hfX)))
    have y2 : X.cell? ⟨N + 1 + 1, 0, none⟩ = some (.slice ao n cap) := cell_of_row _ _ _ _ _ _ x2
    have y3 : X.cell? ⟨N + 3, 0, none⟩ = some (.pointer (some ⟨N + 3 + 1, 0, none⟩)) := cell_of_row _ _ _ _ _ _ x3
    clear x0 x1 x2 x3 x4 xb hbX hfX hX hlk hlk2 hle h1a c0 c1 c2 h1 HB0 HB1 HB2 HD1 HM1 hS1
    obtain ⟨L, hL⟩ : ∃ L, L = (allB [] []).length := ⟨_, rfl⟩
    have hLn : L = 0 := by rw [hL]; simp [allB, afterZ, unitsD]
    have hnn : 1048576 < n := hn
    have HL := Lib.hid hL
    clear hL
    have hwr : IntKind.i64.wrap (1048576 - (L : Int)) = 1048576 - (L : Int) := IntWalk.i64_in _ (by omega)
    have hcm : 1048576 - (L : Int) < (n : Int) := by omega
    clear hLn
    go_region_held3 (fun w' => w'.cell? ⟨N + 1 + 1, 0, none⟩ = some (.slice ao n cap) ∧ w'.cell? ⟨N + 3, 0, none⟩ = some (.pointer (some ⟨N + 3 + 1, 0, none⟩)) ∧ Below X.heap.size X w')
      (first
        | (exact ⟨y2, y3, (Below.refl _ _).drew⟩)
        | (exact ⟨(hb2.cell (block_lt_of_cell y2)).trans y2, (hb2.cell (block_lt_of_cell y3)).trans y3, hb2⟩)
        | (go_split_ands; assumption))
      (first
        | (go_at_call 25
           go_split_ands
           refine (bytes_any (N + 3 + 1) [] [] _ (HX.out.2.2.2.at.later (by assumption))).mono ?_
           rintro e w2 ⟨v, rfl, hown, hb1⟩
           have hb2 : Below X.heap.size X w2 := Below.trans (by assumption) (hb1.mono (Below.size (by assumption)))
           obtain ⟨av, cv, hv, _⟩ := hown.bytes
           rw [← HL.out] at hv
           subst hv))
    all_goals
      go_split_ands
      have hb2 : Below X.heap.size X w2 := by assumption
      have z0 : w2.cell? ⟨N, 0, none⟩ = some (.pointer (some ⟨d, 0, none⟩)) := cell_of_row _ _ _ _ _ _ ((hb2.block _ (heap_lt HXX.out.1)).trans HXX.out.1)
      have HB2 := Lib.hid hb2
      clear hb2
      go_wp2_with fail
      go_ret
      exact ⟨rfl, HX.out.1.trans (HB2.out.mono HX.out.1.size)⟩
set_option maxRecDepth 100000 in
theorem Append_full (base d mb : Nat) (M : List Ent) (st fu : Int) (ao : Option Addr) (n cap : Nat) (B : List UInt8) (w : World) (hbs : base ≤ w.heap.size) (hnf : nameP nm.data.toList = true) (h : DiskM w st fu false d mb M) (hfo : fileOf nm M = none) (hml : 16 ≤ M.length) (hB : IsBytes w ao n cap B) (hz : ZW w) :
    Calls Try.prog 10 #[.pointer (some ⟨d, 0, none⟩), .string nm, .slice ao n cap] w fun e w' => e = .returned (.int .i64 8) ∧ Below w.heap.size w w' := by
  have HDM := Lib.hid h
  obtain ⟨hfx, hmd, hd, c, hfit, hm⟩ := h
  have h0 := hd.cells.1
  have HNF := Lib.hid hnf
  have HML := Lib.hid hml
  have HFO := Lib.hid hfo
  have HZ := Lib.hid hz
  have HD := Lib.hid hd
  have HM := Lib.hid hm
  have HB := Lib.hid hB
  have hml2 : (16 : Int) ≤ (M.length : Int) := by omega
  clear hfx hmd hd hm hB hfit hnf hfo hz
  go_enter Try.func10, Try.ntmps10
  go_wp2_with fail
  generalize hw1 : ((w.alloc (.cells #[.pointer (some ⟨d, 0, none⟩)] 22)).alloc (.cells #[.string nm] 9)).alloc (.cells #[.slice ao n cap] 30) = w1
  obtain ⟨b0, b1, b2, hB1, hS1⟩ := app_boxes d nm _ w w1 hw1
  clear hw1
  have HB9 := Lib.hid hB1
  obtain ⟨N, hN⟩ : ∃ N, N = w.heap.size := ⟨_, rfl⟩
  rw [← hN] at b0 b1 b2 hS1 hbs ⊢
  have HN := Lib.hid (And.intro hN (show w.heap.size ≤ w1.heap.size by omega))
  clear hN
  have HD1 : Hid (DiskRow w1 d mb st fu false) := Lib.hid ((hB1.block _ HD.out.lt).trans HD.out)
  have HM1 : Hid (w1.heap[mb]? = some (.map (ents M) c)) := Lib.hid ((hB1.block _ (heap_lt HM.out)).trans HM.out)
  have h1 := HD1.out.cells.1
  have c0 : w1.cell? ⟨N, 0, none⟩ = some (.pointer (some ⟨d, 0, none⟩)) := cell_of_row _ _ _ _ _ _ b0
  have c1 : w1.cell? ⟨N + 1, 0, none⟩ = some (.string nm) := cell_of_row _ _ _ _ _ _ b1
  have c2 : w1.cell? ⟨N + 1 + 1, 0, none⟩ = some (.slice ao n cap) := cell_of_row _ _ _ _ _ _ b2
  have hlk : (Instr.lookup 40 (.map (some mb)) (.string nm) false).run Try.prog (w1.alloc (.cells #[.pointer none] 55)).drew = .ok (.pointer none) (w1.alloc (.cells #[.pointer none] 55)).drew := by
    exact look_none _ mb c M ((Below.heap_alloc w1 (.cells #[.pointer none] 55) mb (heap_lt HM1.out)).trans HM1.out) HFO.out
  have hlk2 : (Instr.lookup 40 (.map (some mb)) (.string nm) false).run Try.prog w1.drew = .ok (.pointer none) w1.drew := by
    exact look_none w1.drew mb c M HM1.out HFO.out
  have hle : ∀ ty, (Builtin.len_ #[40] ty #[.map (some mb)]).run Try.prog (w1.alloc (.cells #[.pointer none] 55)).drew = .ok (.int .i64 (M.length : Nat)) (w1.alloc (.cells #[.pointer none] 55)).drew :=
    fun ty => len_ents _ mb c M ty ((Below.heap_alloc w1 (.cells #[.pointer none] 55) mb (heap_lt HM1.out)).trans HM1.out)
  have h1a : (w1.alloc (.cells #[.pointer none] 55)).cell? ⟨d, 0, none⟩ = some (.map (some mb)) := (World.cell?_of_block (w := w1) (Below.heap_alloc w1 _ d HD1.out.lt)).trans h1
  have HB0 := Lib.hid b0
  have HB1 := Lib.hid b1
  have HB2 := Lib.hid b2
  have HBL := Lib.hid hB1
  clear b0 b1 b2 hB1
  refine (down_any d mb st fu w1 HD1.out).mono ?_
  rintro e w' ⟨rfl, rfl⟩
  go_wp2_with fail
  go_region
  all_goals
    go_wp2_with fail
    refine (named_log _ HNF.out).mono ?_
    rintro e w' ⟨rfl, rfl⟩
    go_wp2_with fail
    go_ret
    exact ⟨rfl, HN.out.1 ▸ (HB9.out.alloc HN.out.2 _).drew⟩
set_option maxRecDepth 100000 in
theorem Append_out (d mb : Nat) (st fu : Int) (ao : Option Addr) (n cap : Nat) (w : World) (h : DiskRow w d mb st fu true) :
    Calls Try.prog 10 #[.pointer (some ⟨d, 0, none⟩), .string nm, .slice ao n cap] w fun e w' => e = .returned (.int .i64 10) ∧ Below w.heap.size w w' := by
  have HD := Lib.hid h
  go_enter Try.func10, Try.ntmps10
  go_wp2_with fail
  generalize hw1 : ((w.alloc (.cells #[.pointer (some ⟨d, 0, none⟩)] 22)).alloc (.cells #[.string nm] 9)).alloc (.cells #[.slice ao n cap] 30) = w1
  obtain ⟨b0, b1, b2, hB1, hS1⟩ := app_boxes d nm _ w w1 hw1
  clear hw1
  obtain ⟨N, hN⟩ : ∃ N, N = w.heap.size := ⟨_, rfl⟩
  rw [← hN] at b0 b1 b2 hS1 ⊢
  have HN := Lib.hid hN
  have HB := Lib.hid hB1
  have HD1 : Hid (DiskRow w1 d mb st fu true) := Lib.hid ((hB1.block _ HD.out.lt).trans HD.out)
  have c0 : w1.cell? ⟨N, 0, none⟩ = some (.pointer (some ⟨d, 0, none⟩)) := cell_of_row _ _ _ _ _ _ b0
  clear b0 b1 b2 hB1 hN h
  refine (down_outD d mb st fu w1 HD1.out).mono ?_
  rintro e w' ⟨rfl, rfl⟩
  go_wp2_with fail
  go_ret
  exact ⟨rfl, HN.out ▸ HB.out⟩
end Go.Proofs.Ytgbpgmbnihfkkaa
