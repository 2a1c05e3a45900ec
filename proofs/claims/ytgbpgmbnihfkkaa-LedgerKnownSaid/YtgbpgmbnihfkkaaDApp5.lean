/- disk: Append: the step -/
import Derived.Test.YtgbpgmbnihfkkaaDApp3
namespace Go.Proofs.Ytgbpgmbnihfkkaa
open Go.RowKit
set_option linter.unusedSectionVars false
variable [Zone]
variable {nm : ByteArray}
/-- what Append lays under way. -/
def laid (D : List Deed) (n : Nat) (B : List UInt8) : List Deed := if n = 0 then D else D ++ [Deed.more B]
theorem enters_app : ∀ args w, (callFunc 27 args).run Try.prog w = .ok (.enter 27 args) w := enters_of (hf := Try.func27) (hname := by kernel_rfl) (hb := rfl)
theorem fitsD_more : ∀ (D : List Deed) (S B : List UInt8), fitsD S D → fitsD S (D ++ [Deed.more B])
  | [], _, _, _ => trivial
  | .more x :: D, S, B, h => fitsD_more D (S ++ x) B h
  | .cut n :: D, S, B, h => ⟨h.1, fitsD_more D (S.take n) B h.2⟩
theorem app_step (base p bd bn bb d mb f : Nat) (M : List Ent) (st fu : Int) (S : List UInt8) (D : List Deed) (ao : Option Addr) (n cap : Nat) (B : List UInt8) (w : World) (hbs : base ≤ w.heap.size)
    (hp : w.heap[p]? = some (.cells #[.pointer (some ⟨f, 0, none⟩)] 55 (0, 0))) (hbd : w.heap[bd]? = some (.cells #[.pointer (some ⟨d, 0, none⟩)] 22 (0, 0)))
    (hbn : w.heap[bn]? = some (.cells #[.string nm] 9 (0, 0))) (hbb : w.heap[bb]? = some (.cells #[.slice ao n cap] 30 (0, 0)))
    (hdm : DiskM w st fu false d mb M) (hfo : CanPut nm f M) (hf : FileOwn w f base S D) (hB : IsBytes w ao n cap B) (hz : ZW w) (hn : n ≤ 2147483648) (hD : D.length ≤ 1000000)
    (hsm : S.length + ((D ++ [Deed.more B]).map Deed.units).sum ≤ 4294967296) :
    Calls Try.prog 26 #[.pointer (some ⟨d, 0, none⟩), .func (.func 27) #[] #[.pointer (some ⟨p, 0, none⟩), .pointer (some ⟨bd, 0, none⟩), .pointer (some ⟨bn, 0, none⟩), .pointer (some ⟨bb, 0, none⟩)]] w
      fun e w' => ∃ z, e = .returned (.int .i64 z) ∧ Stepped fu z (DiskM w' st fu true d mb M ∧ FileOwn w' f base S D) (∃ M', PutTo nm f M M' ∧ DiskM w' (wrap64 (st + 1)) (dec fu) false d mb M' ∧ FileOwn w' f base S (laid D n B)) ∧ Moved d mb f w w' := by
  have hd := hdm.2.2.1
  have hnd := hf.at.ne_disk hd
  refine (step_all d mb st fu _ _ M w hdm enters_app (fun w' => (∃ M', PutTo nm f M M' ∧ DiskM w' (wrap64 (st + 1)) (dec fu) false d mb M' ∧ FileOwn w' f base S (laid D n B)) ∧ Moved d mb f w w') (fun hfu => ?_)).mono ?_
  · have hmd := hdm.2.1
    have hne : ∀ {j : Nat} {v : Value} {t : TypeId} {fr : Nat × Nat}, w.heap[j]? = some (.cells #[v] t fr) → j ≠ d := by
      rintro j v t fr h rfl
      unfold DiskRow at hd
      rw [hd] at h
      cases h
    have hst : ∀ (j : Nat), j ≠ d → (stepW w d st fu).heap[j]? = w.heap[j]? := fun j hj => stepW_heap hj
    have hdm2 := hdm.stepped
    have hB2 : IsBytes (stepW w d st fu) ao n cap B := hB.moved fun j off v hc => hst j (by
      rintro rfl
      have := hd.plain _ _ hc
      simp [plainV] at this)
    have hmv : Moved d mb f w (stepW w d st fu) := (Moved.refl _ _ _ _).stepW hnd
    have key : ∀ {e : Ending} {w' : World} {D' : List Deed}, (e = .returned (.tuple #[]) ∧ ∃ M', PutTo nm f M M' ∧ DiskRow w' d mb (wrap64 (st + 1)) (dec fu) false ∧ MapHas w' mb M' ∧ FileOwn w' f base S D' ∧ Moved d mb f (stepW w d st fu) w') →
        e = .returned (.tuple #[]) ∧ (∃ M', PutTo nm f M M' ∧ DiskM w' (wrap64 (st + 1)) (dec fu) false d mb M' ∧ FileOwn w' f base S D') ∧ Moved d mb f w w' := by
      rintro e w' D' ⟨rfl, M', hpt, h1, h2, h3, h4⟩
      exact ⟨rfl, ⟨M', hpt, ⟨hdm2.1, hmd, h1, h2⟩, h3⟩, hmv.trans h4⟩
    by_cases h0 : n = 0
    · subst h0
      have : laid D 0 B = D := rfl
      rw [this]
      exact (AppDo_none base p bd bn bb d mb f M _ (dec fu) S D ao cap _ ((hst _ (hne hp)).trans hp) ((hst _ (hne hbd)).trans hbd) ((hst _ (hne hbn)).trans hbn) ((hst _ (hne hbb)).trans hbb) hdm2.2.2.1 hdm2.2.2.2 hfo (hf.stepped hd)).mono fun e w' h => key h
    · have : laid D n B = D ++ [Deed.more B] := if_neg h0
      rw [this]
      exact (AppDo_more base p bd bn bb d mb f M _ (dec fu) S D ao n cap B _ (by rw [stepW_size]; exact hbs) ((hst _ (hne hp)).trans hp) ((hst _ (hne hbd)).trans hbd) ((hst _ (hne hbn)).trans hbn) ((hst _ (hne hbb)).trans hbb) hdm2.2.2.1 hdm2.2.2.2 hfo (hf.stepped hd) hB2 (hz.mono (by rw [stepW_size]; exact Nat.le_refl _)) (by omega) hn hD (fitsD_more D S B hf.2.1) hsm).mono fun e w' h => key h
  · rintro e w' ⟨z, rfl, ⟨h1, h2, rfl⟩ | ⟨h1, h2, q1, q2⟩⟩
    · exact ⟨z, rfl, .inl ⟨h1, h2, hdm.outed, hf.outed hd _ _⟩, (Moved.refl _ _ _ _).setCell_d hnd _ _⟩
    · exact ⟨z, rfl, .inr ⟨h1, h2, q1⟩, q2⟩
/-- the memory of Append behind its arguments' boxes. -/
theorem app_boxes (d : Nat) (nm : ByteArray) (v : Value) (w w1 : World) (h : ((w.alloc (.cells #[.pointer (some ⟨d, 0, none⟩)] 22)).alloc (.cells #[.string nm] 9)).alloc (.cells #[v] 30) = w1) :
    w1.heap[w.heap.size]? = some (.cells #[.pointer (some ⟨d, 0, none⟩)] 22 (0, 0)) ∧ w1.heap[w.heap.size + 1]? = some (.cells #[.string nm] 9 (0, 0)) ∧ w1.heap[w.heap.size + 1 + 1]? = some (.cells #[v] 30 (0, 0)) ∧ Below w.heap.size w w1 ∧ w1.heap.size = w.heap.size + 3 := by
  subst h
  refine ⟨?_, ?_, ?_, (((Below.refl _ _).alloc (Nat.le_refl _) _).alloc (by simp) _).alloc (by simp; omega) _, by simp⟩
  · rw [Below.heap_alloc _ _ _ (by simp; omega), Below.heap_alloc _ _ _ (by simp)]
    exact heap_alloc_new _ _
  · rw [Below.heap_alloc _ _ _ (by simp)]
    have := heap_alloc_new (w.alloc (.cells #[.pointer (some ⟨d, 0, none⟩)] 22)) (.cells #[.string nm] 9)
    simpa using this
  · have := heap_alloc_new ((w.alloc (.cells #[.pointer (some ⟨d, 0, none⟩)] 22)).alloc (.cells #[.string nm] 9)) (.cells #[v] 30)
    simpa using this
/-- the memory of Append where the file is new. -/
theorem app_new (N : Nat) {w1 : World} (hs : w1.heap.size = N + 3) (w2 X : World) (d : Nat) (nm : ByteArray) (v : Value) (h0 : w1.heap[N]? = some (.cells #[.pointer (some ⟨d, 0, none⟩)] 22 (0, 0))) (h1 : w1.heap[N + 1]? = some (.cells #[.string nm] 9 (0, 0)))
    (h2 : w1.heap[N + 1 + 1]? = some (.cells #[v] 30 (0, 0))) (e : w2 = w1) (h : ((w2.alloc (.cells #[.pointer (some ⟨N + 3 + 1, 0, none⟩)] 55)).alloc (.cells #[.slice none 0 0, .slice none 0 0] 61)).drew = X) :
    X.heap[N]? = some (.cells #[.pointer (some ⟨d, 0, none⟩)] 22 (0, 0)) ∧ X.heap[N + 1]? = some (.cells #[.string nm] 9 (0, 0)) ∧ X.heap[N + 1 + 1]? = some (.cells #[v] 30 (0, 0)) ∧
      X.heap[N + 3]? = some (.cells #[.pointer (some ⟨N + 3 + 1, 0, none⟩)] 55 (0, 0)) ∧ X.heap[N + 3 + 1]? = some (.cells #[.slice none 0 0, .slice none 0 0] 61 (0, 0)) ∧ Below w1.heap.size w1 X := by
  subst e
  have hb : Below w2.heap.size w2 X := by rw [← h]; exact (((Below.refl _ _).alloc (Nat.le_refl _) _).alloc (by simp) _).drew
  refine ⟨(hb.block _ (by omega)).trans h0, (hb.block _ (by omega)).trans h1, (hb.block _ (by omega)).trans h2, ?_, ?_, hb⟩
  · rw [← h]
    show ((w2.alloc _).alloc _).heap[_]? = _
    rw [Below.heap_alloc _ _ _ (by simp; omega), ← hs]
    exact heap_alloc_new _ _
  · rw [← h]
    show ((w2.alloc _).alloc _).heap[_]? = _
    have := heap_alloc_new (w2.alloc (.cells #[.pointer (some ⟨N + 3 + 1, 0, none⟩)] 55)) (.cells #[.slice none 0 0, .slice none 0 0] 61)
    rw [← this]
    congr 2
    simp [hs]
set_option maxRecDepth 100000 in
theorem Append_new (base d mb : Nat) (M : List Ent) (st fu : Int) (ao : Option Addr) (n cap : Nat) (B : List UInt8) (w : World) (hbs : base ≤ w.heap.size) (hnf : nameP nm.data.toList = true) (h : DiskM w st fu false d mb M) (hfo : fileOf nm M = none) (hml : M.length < 16) (hB : IsBytes w ao n cap B) (hz : ZW w) (hn : n ≤ 1048576) :
    Calls Try.prog 10 #[.pointer (some ⟨d, 0, none⟩), .string nm, .slice ao n cap] w fun e w' => ∃ z, e = .returned (.int .i64 z) ∧ ∃ f, w.heap.size ≤ f ∧ Stepped fu z (DiskM w' st fu true d mb M) (∃ c, DiskM w' (wrap64 (st + 1)) (dec fu) false d mb (M ++ [(nm, f, c)]) ∧ FileOwn w' f base [] (laid [] n B)) ∧ Moved d mb f w w' := by
  have HDM := Lib.hid h
  obtain ⟨hfx, hmd, hd, c, hfit, hm⟩ := h
  have h0 := hd.cells.1
  have HNF := Lib.hid hnf
  have HML := Lib.hid hml
  have HFO := Lib.hid hfo
  have HZ := Lib.hid hz
  have HD := Lib.hid hd
  have HM := Lib.hid hm
  have HB := Lib.hid hB
  have hml2 : ¬ (16 : Int) ≤ (M.length : Int) := by omega
  clear hfx hmd hd hm hB hfit hnf hfo hz
  go_enter Try.func10, Try.ntmps10
  go_wp2_with fail
  generalize hw1 : ((w.alloc (.cells #[.pointer (some ⟨d, 0, none⟩)] 22)).alloc (.cells #[.string nm] 9)).alloc (.cells #[.slice ao n cap] 30) = w1
  obtain ⟨b0, b1, b2, hB1, hS1⟩ := app_boxes d nm _ w w1 hw1
  clear hw1
  generalize hN : w.heap.size = N at b0 b1 b2 hS1 hbs ⊢
  have HD1 : Hid (DiskRow w1 d mb st fu false) := Lib.hid ((hB1.block _ HD.out.lt).trans HD.out)
  have HM1 : Hid (w1.heap[mb]? = some (.map (ents M) c)) := Lib.hid ((hB1.block _ (heap_lt HM.out)).trans HM.out)
  have h1 := HD1.out.cells.1
  have c0 : w1.cell? ⟨N, 0, none⟩ = some (.pointer (some ⟨d, 0, none⟩)) := cell_of_row _ _ _ _ _ _ b0
  have c1 : w1.cell? ⟨N + 1, 0, none⟩ = some (.string nm) := cell_of_row _ _ _ _ _ _ b1
  have c2 : w1.cell? ⟨N + 1 + 1, 0, none⟩ = some (.slice ao n cap) := cell_of_row _ _ _ _ _ _ b2
  have hlk : (Instr.lookup 40 (.map (some mb)) (.string nm) false).run Try.prog (w1.alloc (.cells #[.pointer none] 55)).drew = .ok (.pointer none) (w1.alloc (.cells #[.pointer none] 55)).drew := by
    exact look_none _ mb c M ((Below.heap_alloc w1 (.cells #[.pointer none] 55) mb (heap_lt HM1.out)).trans HM1.out) HFO.out
  have hlk2 : (Instr.lookup 40 (.map (some mb)) (.string nm) false).run Try.prog w1.drew = .ok (.pointer none) w1.drew := by
    exact look_none w1.drew mb c M HM1.out HFO.out
  have hle : ∀ ty, (Builtin.len_ #[40] ty #[.map (some mb)]).run Try.prog (w1.alloc (.cells #[.pointer none] 55)).drew = .ok (.int .i64 (M.length : Nat)) (w1.alloc (.cells #[.pointer none] 55)).drew :=
    fun ty => len_ents _ mb c M ty ((Below.heap_alloc w1 (.cells #[.pointer none] 55) mb (heap_lt HM1.out)).trans HM1.out)
  have h1a : (w1.alloc (.cells #[.pointer none] 55)).cell? ⟨d, 0, none⟩ = some (.map (some mb)) := (World.cell?_of_block (w := w1) (Below.heap_alloc w1 _ d HD1.out.lt)).trans h1
  have HB0 := Lib.hid b0
  have HB1 := Lib.hid b1
  have HB2 := Lib.hid b2
  have HBL := Lib.hid hB1
  clear b0 b1 b2 hB1
  refine (down_any d mb st fu w1 HD1.out).mono ?_
  rintro e w' ⟨rfl, rfl⟩
  go_wp2_with fail
  go_region
  all_goals
    go_wp2_with fail
    refine (named_log _ HNF.out).mono ?_
    rintro e w' ⟨rfl, rfl⟩
    go_wp2_with fail
    generalize hX : (((w1.alloc (.cells #[.pointer (some ⟨N + 3 + 1, 0, none⟩)] 55)).alloc (.cells #[.slice none 0 0, .slice none 0 0] 61)).drew : World) = X
    obtain ⟨x0, x1, x2, x3, x4, xb⟩ := app_new N hS1 w1 X d nm _ HB0.out HB1.out HB2.out rfl hX
    have hbX : Below w.heap.size w X := HBL.out.trans (xb.mono HBL.out.size)
    have hfX : FileOwn X (N + 3 + 1) base [] [] := ⟨⟨none, 0, 0, .slice none 0 0, x4, ⟨IsBytes.nil X, ZS.nil⟩, OwnD.nil X base⟩, trivial, by simp⟩
    have HX4 : Hid (FileRow X (N + 3 + 1) (.slice none 0 0) (.slice none 0 0)) := Lib.hid x4
    have HXX := Lib.hid (And.intro x0 (And.intro x1 (And.intro x2 x3)))
    have HX := Lib.hid (And.intro hbX (And.intro trivial (And.intro trivial hfX)))
    have y2 : X.cell? ⟨N + 1 + 1, 0, none⟩ = some (.slice ao n cap) := cell_of_row _ _ _ _ _ _ x2
    have y3 : X.cell? ⟨N + 3, 0, none⟩ = some (.pointer (some ⟨N + 3 + 1, 0, none⟩)) := cell_of_row _ _ _ _ _ _ x3
    clear x0 x1 x2 x3 x4 xb hbX hfX hX hlk hlk2 hle h1a c0 c1 c2 h1 HB0 HB1 HB2 HD1 HM1 hS1
    obtain ⟨L, hL⟩ : ∃ L, L = (allB [] []).length := ⟨_, rfl⟩
    have hLn : n + L ≤ 1048576 := by rw [hL]; simpa [allB, afterZ, unitsD] using hn
    have HL := Lib.hid hL
    clear hL
    have hwr : IntKind.i64.wrap (1048576 - (L : Int)) = 1048576 - (L : Int) := IntWalk.i64_in _ (by omega)
    have hcm : ¬ (1048576 - (L : Int) < (n : Int)) := by omega
    go_region_held3 (fun w' => w'.cell? ⟨N + 1 + 1, 0, none⟩ = some (.slice ao n cap) ∧ w'.cell? ⟨N + 3, 0, none⟩ = some (.pointer (some ⟨N + 3 + 1, 0, none⟩)) ∧ Below X.heap.size X w')
      (first
        | (exact ⟨y2, y3, (Below.refl _ _).drew⟩)
        | (exact ⟨(hb2.cell (block_lt_of_cell y2)).trans y2, (hb2.cell (block_lt_of_cell y3)).trans y3, hb2⟩)
        | (go_split_ands; assumption))
      (first
        | (go_at_call 25
           go_split_ands
           refine (bytes_any (N + 3 + 1) [] [] _ (HX.out.2.2.2.at.later (by assumption))).mono ?_
           rintro e w2 ⟨v, rfl, hown, hb1⟩
           have hb2 : Below X.heap.size X w2 := Below.trans (by assumption) (hb1.mono (Below.size (by assumption)))
           obtain ⟨av, cv, hv, _⟩ := hown.bytes
           rw [← HL.out] at hv
           subst hv))
    all_goals
      go_split_ands
      have hb2 : Below X.heap.size X w2 := by assumption
      have z0 : w2.cell? ⟨N, 0, none⟩ = some (.pointer (some ⟨d, 0, none⟩)) := cell_of_row _ _ _ _ _ _ ((hb2.block _ (heap_lt HXX.out.1)).trans HXX.out.1)
      have HB2 := Lib.hid hb2
      clear hb2
      go_wp2_with fail
      have hw2 : Below w.heap.size w w2 := HX.out.1.trans (HB2.out.mono HX.out.1.size)
      refine (app_step base (N + 3) N (N + 1) (N + 1 + 1) d mb (N + 3 + 1) M st fu [] [] ao n cap B w2 (Nat.le_trans (by omega) hw2.size) ((HB2.out.block _ (heap_lt HXX.out.2.2.2)).trans HXX.out.2.2.2) ((HB2.out.block _ (heap_lt HXX.out.1)).trans HXX.out.1)
        ((HB2.out.block _ (heap_lt HXX.out.2.1)).trans HXX.out.2.1) ((HB2.out.block _ (heap_lt HXX.out.2.2.1)).trans HXX.out.2.2.1) (HDM.out.later hw2) (.inr ⟨HFO.out, HNF.out, HML.out⟩) (HX.out.2.2.2.later HB2.out) (HB.out.later hw2) (HZ.out.mono hw2.size) (by omega) (by simp)
        (by have := HB.out.1; simp [Deed.units]; omega)).mono ?_
      rintro e w' ⟨z, rfl, hl, hmv⟩
      have hnr : rowOf w2 (N + 3 + 1) = none := by
        obtain ⟨⟨_, _, _, lv, hr, _, _⟩, _, _⟩ := HX.out.2.2.2.later HB2.out
        have h4 := (HB2.out.block _ (heap_lt HX4.out)).trans HX4.out
        exact rowOf_row h4
      have HRES : Hid (Stepped fu z (DiskM w' st fu true d mb M) (∃ c, DiskM w' (wrap64 (st + 1)) (dec fu) false d mb (M ++ [(nm, N + 3 + 1, c)]) ∧ FileOwn w' (N + 3 + 1) base [] (laid [] n B)) ∧ Moved d mb (N + 3 + 1) w w') := Lib.hid ⟨by
        rcases hl with ⟨q1, q2, q3, _⟩ | ⟨q1, q2, M', hpt, q3, q4⟩
        · exact .inl ⟨q1, q2, q3⟩
        · rcases hpt with ⟨p1, _⟩ | ⟨_, c', rfl⟩
          · rw [HFO.out] at p1; cases p1
          · exact .inr ⟨q1, q2, c', q3, q4⟩, (Moved.of_new hw2 hnr).trans hmv⟩
      clear hl hmv hw2 hnr
      go_wp2_with fail
      go_ret
      exact ⟨z, rfl, N + 3 + 1, by omega, HRES.out.1, HRES.out.2⟩
end Go.Proofs.Ytgbpgmbnihfkkaa

/- disk: Append to a file that is there -/
namespace Go.Proofs.Ytgbpgmbnihfkkaa
open Go.RowKit
set_option linter.unusedSectionVars false
variable [Zone]
variable {nm : ByteArray}
/-- the memory of Append where the file is there. -/
theorem app_old (f N : Nat) {w1 : World} (hs : w1.heap.size = N + 3) (X : World) (h : (w1.alloc (.cells #[.pointer (some ⟨f, 0, none⟩)] 55)).drew = X) :
    X.heap[N + 3]? = some (.cells #[.pointer (some ⟨f, 0, none⟩)] 55 (0, 0)) ∧ Below w1.heap.size w1 X := by
  subst h
  refine ⟨?_, ((Below.refl _ _).alloc (Nat.le_refl _) _).drew⟩
  rw [← hs]
  exact heap_alloc_new _ _
set_option maxRecDepth 100000 in
theorem Append_log (base d mb f : Nat) (M : List Ent) (st fu : Int) (S : List UInt8) (D : List Deed) (ao : Option Addr) (n cap : Nat) (B : List UInt8) (w : World) (hbs : base ≤ w.heap.size) (hnf : nameP nm.data.toList = true) (h : DiskM w st fu false d mb M) (hfo : fileOf nm M = some f) (hf : FileOwn w f base S D) (hB : IsBytes w ao n cap B) (hz : ZW w) (hn : n + (allB S D).length ≤ 1048576) (hDl : D.length ≤ 1000000) (hsm : S.length + ((D ++ [Deed.more B]).map Deed.units).sum ≤ 4294967296) :
    Calls Try.prog 10 #[.pointer (some ⟨d, 0, none⟩), .string nm, .slice ao n cap] w fun e w' => ∃ z, e = .returned (.int .i64 z) ∧ Stepped fu z (DiskM w' st fu true d mb M ∧ FileOwn w' f base S D) (DiskM w' (wrap64 (st + 1)) (dec fu) false d mb M ∧ FileOwn w' f base S (laid D n B)) ∧ Moved d mb f w w' := by
  have HDM := Lib.hid h
  obtain ⟨hfx, hmd, hd, c, hfit, hm⟩ := h
  have HF := Lib.hid hf
  have HDL := Lib.hid hDl
  have HSM := Lib.hid hsm
  have h0 := hd.cells.1
  have HNF := Lib.hid hnf
  have HFO := Lib.hid hfo
  have HZ := Lib.hid hz
  have HD := Lib.hid hd
  have HM := Lib.hid hm
  have HB := Lib.hid hB
  clear hfx hmd hd hm hB hfit hnf hfo hf hDl hsm hz
  go_enter Try.func10, Try.ntmps10
  go_wp2_with fail
  generalize hw1 : ((w.alloc (.cells #[.pointer (some ⟨d, 0, none⟩)] 22)).alloc (.cells #[.string nm] 9)).alloc (.cells #[.slice ao n cap] 30) = w1
  obtain ⟨b0, b1, b2, hB1, hS1⟩ := app_boxes d nm _ w w1 hw1
  clear hw1
  generalize hN : w.heap.size = N at b0 b1 b2 hS1 hbs ⊢
  have HD1 : Hid (DiskRow w1 d mb st fu false) := Lib.hid ((hB1.block _ HD.out.lt).trans HD.out)
  have HM1 : Hid (w1.heap[mb]? = some (.map (ents M) c)) := Lib.hid ((hB1.block _ (heap_lt HM.out)).trans HM.out)
  have h1 := HD1.out.cells.1
  have c0 : w1.cell? ⟨N, 0, none⟩ = some (.pointer (some ⟨d, 0, none⟩)) := cell_of_row _ _ _ _ _ _ b0
  have c1 : w1.cell? ⟨N + 1, 0, none⟩ = some (.string nm) := cell_of_row _ _ _ _ _ _ b1
  have c2 : w1.cell? ⟨N + 1 + 1, 0, none⟩ = some (.slice ao n cap) := cell_of_row _ _ _ _ _ _ b2
  have hlk : (Instr.lookup 40 (.map (some mb)) (.string nm) false).run Try.prog (w1.alloc (.cells #[.pointer none] 55)).drew = .ok (.pointer (some ⟨f, 0, none⟩)) (w1.alloc (.cells #[.pointer none] 55)).drew := by
    exact look_log _ mb c M ((Below.heap_alloc w1 (.cells #[.pointer none] 55) mb (heap_lt HM1.out)).trans HM1.out) HFO.out
  have hlk2 : (Instr.lookup 40 (.map (some mb)) (.string nm) false).run Try.prog w1.drew = .ok (.pointer (some ⟨f, 0, none⟩)) w1.drew := by
    exact look_log w1.drew mb c M HM1.out HFO.out
  have h1a : (w1.alloc (.cells #[.pointer none] 55)).cell? ⟨d, 0, none⟩ = some (.map (some mb)) := (World.cell?_of_block (w := w1) (Below.heap_alloc w1 _ d HD1.out.lt)).trans h1
  have HB0 := Lib.hid b0
  have HB1 := Lib.hid b1
  have HB2 := Lib.hid b2
  have HBL := Lib.hid hB1
  clear b0 b1 b2 hB1
  refine (down_any d mb st fu w1 HD1.out).mono ?_
  rintro e w' ⟨rfl, rfl⟩
  go_wp2_with fail
  go_region
  all_goals
    go_wp2_with fail
    refine (named_log _ HNF.out).mono ?_
    rintro e w' ⟨rfl, rfl⟩
    go_wp2_with fail
    generalize hX : ((w1.alloc (.cells #[.pointer (some ⟨f, 0, none⟩)] 55)).drew : World) = X
    obtain ⟨x3, xb⟩ := app_old f N hS1 X hX
    have x0 := (xb.block N (by omega)).trans HB0.out
    have x1 := (xb.block (N + 1) (by omega)).trans HB1.out
    have x2 := (xb.block (N + 1 + 1) (by omega)).trans HB2.out
    have hbX : Below w.heap.size w X := HBL.out.trans (xb.mono HBL.out.size)
    have hfX : FileOwn X f base S D := HF.out.later hbX
    have HXX := Lib.hid (And.intro x0 (And.intro x1 (And.intro x2 x3)))
    have HX := Lib.hid (And.intro hbX (And.intro trivial (And.intro trivial hfX)))
    have y2 : X.cell? ⟨N + 1 + 1, 0, none⟩ = some (.slice ao n cap) := cell_of_row _ _ _ _ _ _ x2
    have y3 : X.cell? ⟨N + 3, 0, none⟩ = some (.pointer (some ⟨f, 0, none⟩)) := cell_of_row _ _ _ _ _ _ x3
    clear x0 x1 x2 x3 xb hbX hfX hX hlk hlk2 h1a c0 c1 c2 h1 HB0 HB1 HB2 HD1 HM1 hS1
    obtain ⟨L, hL⟩ : ∃ L, L = (allB S D).length := ⟨_, rfl⟩
    have hLn : n + L ≤ 1048576 := by rw [hL]; exact hn
    have HL := Lib.hid hL
    clear hL
    have hwr : IntKind.i64.wrap (1048576 - (L : Int)) = 1048576 - (L : Int) := IntWalk.i64_in _ (by omega)
    have hcm : ¬ (1048576 - (L : Int) < (n : Int)) := by omega
    go_region_held3 (fun w' => w'.cell? ⟨N + 1 + 1, 0, none⟩ = some (.slice ao n cap) ∧ w'.cell? ⟨N + 3, 0, none⟩ = some (.pointer (some ⟨f, 0, none⟩)) ∧ Below X.heap.size X w')
      (first
        | (exact ⟨y2, y3, (Below.refl _ _).drew⟩)
        | (exact ⟨(hb2.cell (block_lt_of_cell y2)).trans y2, (hb2.cell (block_lt_of_cell y3)).trans y3, hb2⟩)
        | (go_split_ands; assumption))
      (first
        | (go_at_call 25
           go_split_ands
           refine (bytes_any f S D _ (HX.out.2.2.2.at.later (by assumption))).mono ?_
           rintro e w2 ⟨v, rfl, hown, hb1⟩
           have hb2 : Below X.heap.size X w2 := Below.trans (by assumption) (hb1.mono (Below.size (by assumption)))
           obtain ⟨av, cv, hv, _⟩ := hown.bytes
           rw [← HL.out] at hv
           subst hv))
    all_goals
      go_split_ands
      have hb2 : Below X.heap.size X w2 := by assumption
      have z0 : w2.cell? ⟨N, 0, none⟩ = some (.pointer (some ⟨d, 0, none⟩)) := cell_of_row _ _ _ _ _ _ ((hb2.block _ (heap_lt HXX.out.1)).trans HXX.out.1)
      have HB2 := Lib.hid hb2
      clear hb2
      go_wp2_with fail
      have hw2 : Below w.heap.size w w2 := HX.out.1.trans (HB2.out.mono HX.out.1.size)
      refine (app_step base (N + 3) N (N + 1) (N + 1 + 1) d mb f M st fu S D ao n cap B w2 (Nat.le_trans (by omega) hw2.size) ((HB2.out.block _ (heap_lt HXX.out.2.2.2)).trans HXX.out.2.2.2) ((HB2.out.block _ (heap_lt HXX.out.1)).trans HXX.out.1)
        ((HB2.out.block _ (heap_lt HXX.out.2.1)).trans HXX.out.2.1) ((HB2.out.block _ (heap_lt HXX.out.2.2.1)).trans HXX.out.2.2.1) (HDM.out.later hw2) (.inl HFO.out) (HX.out.2.2.2.later HB2.out) (HB.out.later hw2) (HZ.out.mono hw2.size) (by omega) HDL.out HSM.out).mono ?_
      rintro e w' ⟨z, rfl, hl, hmv⟩
      have HRES : Hid (Stepped fu z (DiskM w' st fu true d mb M ∧ FileOwn w' f base S D) (DiskM w' (wrap64 (st + 1)) (dec fu) false d mb M ∧ FileOwn w' f base S (laid D n B)) ∧ Moved d mb f w w') := Lib.hid ⟨by
        rcases hl with ⟨q1, q2, q3⟩ | ⟨q1, q2, M', hpt, q3, q4⟩
        · exact .inl ⟨q1, q2, q3⟩
        · rcases hpt with ⟨_, rfl⟩ | ⟨p1, _⟩
          · exact .inr ⟨q1, q2, q3, q4⟩
          · (rw [HFO.out] at p1; cases p1), (Moved.of_below hw2 HF.out.at.lt).trans hmv⟩
      clear hl hmv hw2
      go_wp2_with fail
      go_ret
      exact ⟨z, rfl, HRES.out.1, HRES.out.2⟩
end Go.Proofs.Ytgbpgmbnihfkkaa
