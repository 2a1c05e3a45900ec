/- ledger: Open, whatever its disk holds -/
import Derived.Test.YtgbpgmbnihfkkaaLOpen1
import Derived.Test.YtgbpgmbnihfkkaaScan
import Derived.Test.YtgbpgmbnihfkkaaLSig
set_option linter.unusedSimpArgs false
set_option linter.unusedVariables false
namespace Go.Proofs.Ytgbpgmbnihfkkaa
open Go.RowKit
set_option linter.unusedSectionVars false
/-- the blocks between two marks. -/
@[reducible] def Zi (lo hi : Nat) : Zone := ⟨fun k => lo ≤ k ∧ k < hi⟩
/-- what Open tells. -/
def OpenR (Z : Zone) (o : Int × Option LSig × List (List UInt8) × Sig) (d mb base : Nat) (w : World) (e : Ending) (w' : World) : Prop :=
  ∃ lv v, e = .returned (.tuple #[lv, v, .int .i64 o.1]) ∧ @DSig Z w' d mb base o.2.2.2 ∧ Lists w' w.heap.size v o.2.2.1 ∧ FD base none w w' ∧ ((o.2.1 = none ∧ lv = .pointer none) ∨ ∃ L l, o.2.1 = some L ∧ lv = .pointer (some ⟨l, 0, none⟩) ∧ w.heap.size ≤ l ∧ LedRow w' l d L.nm L.n L.size L.br)
theorem Read_none_S [Zone] (s : ByteArray) (d mb base : Nat) (g : Sig) (w : World) (h : DSig w d mb base g) (hc : (readG s g).1 ≠ 0) :
    Calls Try.prog 12 #[.pointer (some ⟨d, 0, none⟩), .string s] w fun e w' => e = .returned (.tuple #[.slice none 0 0, .int .i64 (readG s g).1]) ∧ w = w' := by
  obtain ⟨M, C, fu, h1, h2, h3⟩ := id h
  obtain ⟨hn, hm16⟩ := h1.once
  have hz := atZ_is s g.R
  unfold readG at hc ⊢
  by_cases ho : g.out = true
  · rw [if_pos ho]
    have hd := h1.dm.2.2.1
    rw [ho] at hd
    exact Read_ref d 10 w (.inr rfl) (NoOpen.of_out d mb _ fu s w hd)
  · rw [if_neg ho] at hc ⊢
    by_cases hneg : atZ s g.R < 0
    · rw [if_pos hneg]
      obtain ⟨hfo, hno⟩ := h2.no hz hneg
      have ho : g.out = false := by simpa using ho
      rw [ho] at h1
      exact Read_ref d 6 w (.inl rfl) (NoOpen.of_none d mb M _ fu w h1.dm hfo)
    · rw [if_neg hneg] at hc
      exact absurd rfl hc
theorem openG_new {nm : ByteArray} {g g1 g3 : Sig} {c0 c2 : Int} (h6 : (readG nm g).1 = 6) (h1 : appG nm [] g = (c0, g1)) (h3 : syncG nm g1 = (c2, g3)) :
    openG nm g = if c0 ≠ 0 then (c0, none, [], g1) else if c2 ≠ 0 then (c2, none, [], g3) else (0, some ⟨nm, 0, 0, false⟩, [], g3) := by
  unfold openG openE
  rw [if_pos h6, h1]
  dsimp only
  rw [h3]
theorem openG_old {nm : ByteArray} {g g2 g3 : Sig} {c1 c2 : Int} {bs : List UInt8} {recs : List (List UInt8)} {sz rest : Nat} (h0 : readG nm g = (0, bs)) (hs : Fr.scanF bs = (recs, sz, rest)) (h2 : (c1, g2) = if rest = 2 then (4, g) else if rest = 1 then cutG nm (sz : Nat) g else (0, g)) (h3 : syncG nm g2 = (c2, g3)) :
    openG nm g = if c1 ≠ 0 then (c1, none, [], g2) else if c2 ≠ 0 then (c2, none, [], g3) else (0, some ⟨nm, (recs.length : Nat), (sz : Nat), false⟩, recs, g3) := by
  unfold openG openE
  rw [h0]
  dsimp only
  rw [if_neg (by omega), if_neg (by simp), hs]
  dsimp only
  by_cases r2 : rest = 2
  · rw [if_pos r2] at h2 ⊢
    injection h2 with h2 h4
    subst h2
    subst h4
    rw [if_pos (by omega)]
  · rw [if_neg r2] at h2 ⊢
    by_cases r1 : rest = 1
    · rw [if_pos r1] at h2 ⊢
      rw [← h2]
      dsimp only
      rw [h3]
    · rw [if_neg r1] at h2 ⊢
      injection h2 with h2 h4
      subst h2
      subst h4
      rw [h3, if_neg (show ¬ ((0 : Int) ≠ 0) by simp)]
theorem open_slice_eq {a b c d e f : Value} (h : Ending.returned (.tuple #[a, b, c]) = .returned (.tuple #[d, e, f])) : b = e := by
  injection h with h
  injection h with h
  injection h with h
  injection h with _ h
  injection h with h _
set_option maxRecDepth 100000 in
set_option maxHeartbeats 4000000 in
theorem Open_fresh [Z : Zone] (nm : ByteArray) (hss : nm.size ≤ 1099511627776) (base d mb q k : Nat) (g : Sig) (w : World) (hbs : base ≤ w.heap.size) (hd : DSig w d mb base g) (hl : Lim q k g) (hq : q + 1 ≤ 4294967296) (hk : k + 2 ≤ 1000000) (h6 : (readG nm g).1 = 6) :
    Calls Try.prog 11 #[.pointer (some ⟨d, 0, none⟩), .string nm] w fun e w' => OpenR Z (openG nm g) d mb base w e w' ∧ ∀ lv v z, e = .returned (.tuple #[lv, v, z]) → v = .slice none 0 0 := by
  have hmf : ∀ (fn : Fn) (first cap : Array Value) (w : World), (Instr.makeFunc fn first cap).run Try.prog w = .ok (.func fn first cap) w := fun _ _ _ _ => rfl
  obtain ⟨c0, g1, h1⟩ : ∃ c g1, appG nm [] g = (c, g1) := ⟨_, _, rfl⟩
  obtain ⟨c2, g3, h3⟩ : ∃ c g3, syncG nm g1 = (c, g3) := ⟨_, _, rfl⟩
  have hl1 : Lim q (k + 1) g1 := by have := hl.app (s := nm) (B := []) (q' := q) (k' := k + 1) (by simp) (Nat.le_refl _); rw [h1] at this; exact this
  have HO := Lib.hid (openG_new h6 h1 h3)
  have HD := Lib.hid hd
  have HRD := Lib.hid (fun w' (hb : Below w.heap.size w w') => Read_none_S nm d mb base g w' (hd.later hb) (by omega))
  have HS1 := Lib.hid (fun (N E F : Nat) w' (hb : base ≤ w'.heap.size) a0 a1 a2 (hd' : DSig w' d mb base g) => step1_S base N E F d mb q k nm hss g w' hb a0 a1 a2 hd' hl (by omega) (by omega))
  have HS3 := Lib.hid (fun (N : Nat) w' (hb : base ≤ w'.heap.size) a0 a1 (hd' : DSig w' d mb base g1) => step3_S base N d mb q (k + 1) nm g1 w' hb a0 a1 hd' hl1 (by omega))
  rw [h6] at HRD
  rw [h1] at HS1
  rw [h3] at HS3
  clear hd hl hl1 h1 h3 h6 hss
  go_enter Try.func11, Try.ntmps11
  go_wp2_with fail
  generalize hw1 : (((w.alloc (.cells #[.pointer (some ⟨d, 0, none⟩)] 22)).alloc (.cells #[.string nm] 9)).alloc (.cells #[.int .i64 0] 3)).alloc (.cells #[.int .i64 0] 3) = w1
  obtain ⟨b0, b1, b2, b3, hB1, hS1⟩ := open_boxes _ nm w w1 hw1
  clear hw1
  have HW := Lib.hid (show ∃ n, n = w.heap.size from ⟨_, rfl⟩)
  obtain ⟨N, hN⟩ : ∃ N, N = w.heap.size := ⟨_, rfl⟩
  rw [← hN] at b0 b1 b2 b3 hS1 hbs ⊢
  have HX := Lib.hid (And.intro b0 (And.intro b1 (And.intro b2 (And.intro b3 (And.intro hB1 (And.intro (HD.out.later hB1) hN))))))
  clear b0 b1 b2 b3 hN HW
  refine (HRD.out w1 hB1).mono ?_
  rintro e w' ⟨rfl, rfl⟩
  clear hB1
  go_wp2_with fail
  generalize hX : (World.alloc (World.alloc (World.alloc w1 _) _) _) = X
  obtain ⟨hmem, hbX⟩ := open_mem N d nm 6 true 0 0 w1 X hS1 HX.out.1 HX.out.2.1 HX.out.2.2.1 HX.out.2.2.2.1 hX
  have hbwX : Below w.heap.size w X := HX.out.2.2.2.2.1.trans (hbX.mono (by have := HX.out.2.2.2.2.2.2; omega))
  have HXX := Lib.hid (And.intro hmem (And.intro hbwX (HX.out.2.2.2.2.2.1.later hbX)))
  clear hX hbX hmem hbwX
  have en1 := enters_1
  have en2 := enters_2
  have en3 := enters_3
  have HB := Lib.hid hbs
  go_loopw [37] (fun i wr => ∃ j : Nat, j ≤ 3 ∧ i = .int .i64 j ∧ Hid (OpenMem wr N (N + 4) (N + 4 + 1) (N + 4 + 1 + 1) (some ⟨d, 0, none⟩) nm 6 true 0 0) ∧ Hid (FD base none w wr) ∧ Hid ((j = 0 ∧ DSig wr d mb base g) ∨ ((j = 1 ∨ j = 2) ∧ c0 = 0 ∧ DSig wr d mb base g1) ∨ (j = 3 ∧ c0 = 0 ∧ c2 = 0 ∧ DSig wr d mb base g3))) (fun i _ => 3 - (intOf i).toNat)
  case atStart => exact ⟨0, by omega, rfl, Lib.hid HXX.out.1, Lib.hid (FD.of_below HXX.out.2.1 (by have := HX.out.2.2.2.2.2.2; have := HB.out; omega)), Lib.hid (.inl ⟨rfl, HXX.out.2.2⟩)⟩
  case round =>
    obtain ⟨j, hj, rfl, hm, hF, hD⟩ := hrel
    obtain ⟨f0, f1, f2⟩ := hm.out.funcs
    have hj4 : j = 0 ∨ j = 1 ∨ j = 2 ∨ j = 3 := by omega
    have hbr : base ≤ wr.heap.size := Nat.le_trans (by have := HX.out.2.2.2.2.2.2; have := HB.out; omega) hF.out.below.size
    have HBR := Lib.hid hbr
    clear hbr
    rcases hj4 with rfl | rfl | rfl | rfl
    · have hdr : DSig wr d mb base g := by
        rcases hD.out with ⟨_, h⟩ | ⟨h, _⟩ | ⟨h, _⟩
        · exact h
        · omega
        · omega
      have HDR := Lib.hid hdr
      clear hdr
      go_wp2_with fail
      refine (HS1.out N (N + 4) (N + 4 + 1) wr HBR.out hm.out.box hm.out.name hm.out.fresh HDR.out).mono ?_
      rintro e w2 ⟨rfl, hd2, hf2⟩
      have HREL := Lib.hid (And.intro (hm.out.fd hf2) (And.intro (hF.out.trans hf2) hd2))
      clear hd2 hf2
      by_cases hc0 : c0 = 0
      · have HC0 := Lib.hid hc0
        have hcb : (c0 == 0) = true := by simpa using hc0
        have hcb2 : (c0 != 0) = false := by simpa using hc0
        clear hc0
        go_wp2_with fail
        go_roundw
        case rel => exact ⟨1, by omega, rfl, Lib.hid HREL.out.1, Lib.hid HREL.out.2.1, Lib.hid (.inr (.inl ⟨.inl rfl, HC0.out, HREL.out.2.2⟩))⟩
        case measure => simp [intOf]
      · have hcb : (c0 == 0) = false := by simpa using hc0
        have hcb2 : (c0 != 0) = true := by simpa using hc0
        have HC0 := Lib.hid hc0
        clear hc0
        go_wp2_with fail
        go_ret3
        rw [HO.out, if_pos HC0.out]
        exact ⟨⟨_, _, rfl, HREL.out.2.2, Lists.nil _ _, HREL.out.2.1, .inl (by simp)⟩, fun lv v z e => (open_slice_eq e).symm⟩
    · go_wp2_with fail
      refine (step2_whole N wr hm.out.rest).mono ?_
      rintro e w2 ⟨rfl, rfl⟩
      go_wp2_with fail
      go_roundw
      case rel =>
        refine ⟨2, by omega, rfl, hm, hF, Lib.hid (.inr (.inl ⟨.inr rfl, ?_⟩))⟩
        rcases hD.out with ⟨h, _⟩ | ⟨_, h⟩ | ⟨h, _⟩
        · omega
        · exact h
        · omega
      case measure => simp [intOf]
    · have hdr : c0 = 0 ∧ DSig wr d mb base g1 := by
        rcases hD.out with ⟨h, _⟩ | ⟨_, h⟩ | ⟨h, _⟩
        · omega
        · exact h
        · omega
      have HDR := Lib.hid hdr
      clear hdr
      go_wp2_with fail
      refine (HS3.out N wr HBR.out hm.out.box hm.out.name HDR.out.2).mono ?_
      rintro e w2 ⟨rfl, hd2, hf2⟩
      have HREL := Lib.hid (And.intro (hm.out.fd hf2) (And.intro (hF.out.trans hf2) hd2))
      clear hd2 hf2
      by_cases hc2 : c2 = 0
      · have HC2 := Lib.hid hc2
        have hcb : (c2 == 0) = true := by simpa using hc2
        have hcb2 : (c2 != 0) = false := by simpa using hc2
        clear hc2
        go_wp2_with fail
        go_roundw
        case rel => exact ⟨3, by omega, rfl, Lib.hid HREL.out.1, Lib.hid HREL.out.2.1, Lib.hid (.inr (.inr ⟨rfl, HDR.out.1, HC2.out, HREL.out.2.2⟩))⟩
        case measure => simp [intOf]
      · have hcb : (c2 == 0) = false := by simpa using hc2
        have hcb2 : (c2 != 0) = true := by simpa using hc2
        have HC2 := Lib.hid hc2
        clear hc2
        go_wp2_with fail
        go_ret3
        rw [HO.out, if_neg (by have := HDR.out.1; omega), if_pos HC2.out]
        exact ⟨⟨_, _, rfl, HREL.out.2.2, Lists.nil _ _, HREL.out.2.1, .inl (by simp)⟩, fun lv v z e => (open_slice_eq e).symm⟩
    · have hdr : c0 = 0 ∧ c2 = 0 ∧ DSig wr d mb base g3 := by
        rcases hD.out with ⟨h, _⟩ | ⟨h, _⟩ | ⟨_, h⟩
        · omega
        · omega
        · exact h
      have HDR := Lib.hid hdr
      have g0 : wr.cell? ⟨N, 0, none⟩ = some (.pointer (some ⟨d, 0, none⟩)) := cell_of_row _ _ _ _ _ _ hm.out.box
      have g1 : wr.cell? ⟨N + 1, 0, none⟩ = some (.string nm) := cell_of_row _ _ _ _ _ _ hm.out.name
      have g2 : wr.cell? ⟨N + 1 + 1, 0, none⟩ = some (.int .i64 0) := cell_of_row _ _ _ _ _ _ hm.out.size
      clear hdr
      go_wp2_with fail
      go_ret3
      rw [HO.out, if_neg (by have := HDR.out.1; omega), if_neg (by have := HDR.out.2.1; omega)]
      exact ⟨⟨_, _, rfl, HDR.out.2.2.later ((Below.refl _ _).alloc (Nat.le_refl _) _), Lists.nil _ _, hF.out.trans (FD.of_below ((Below.refl _ _).alloc (Nat.le_refl _) _) HBR.out), .inr ⟨_, wr.heap.size, rfl, rfl, hF.out.below.size, heap_alloc_new _ _⟩⟩, fun lv v z e => (open_slice_eq e).symm⟩
end Go.Proofs.Ytgbpgmbnihfkkaa

/- one ledger on a disk of one file: what the calls make of it, plainly -/
set_option linter.unusedSimpArgs false
set_option linter.unusedVariables false
namespace Go.Proofs.Ytgbpgmbnihfkkaa
open Go.RowKit
set_option linter.unusedSectionVars false
/-- a disk of one file, all of it safe; no fuse. -/
def oneG (s : ByteArray) (S : List UInt8) (N lf : Int) : Sig := ⟨[(s, S, [])], N, false, lf, false⟩
def zeroG (N lf : Int) : Sig := ⟨[], N, false, lf, false⟩
theorem atZ_nil (s : ByteArray) : atZ s [] = -1 := (AtR.eq (.inr ⟨rfl, fun j hj => absurd hj (by simp)⟩)).symm
theorem atZ_one (s : ByteArray) (x : List UInt8 × List Deed) : atZ s [(s, x)] = 0 := (AtR.eq (.inl ⟨0, rfl, by simp, rfl, fun j hj => absurd hj (by omega)⟩)).symm
theorem insK_nil (s : ByteArray) : insK s [] = 0 := (InsAt.eq (k := 0) ⟨Nat.le_refl _, fun j hj => absurd hj (by omega), fun h => absurd h (by simp)⟩).symm
theorem runD_addB (S B : List UInt8) : runD S (addB B) = S ++ B := by
  unfold addB
  split
  · rename_i h; subst h; simp [runD]
  · simp [runD]
theorem doneG_free {R R' : List FileV} {N lf : Int} {o : Bool} : doneG ⟨R, N, false, lf, o⟩ R' = (0, ⟨R', N + 1, false, lf, false⟩) := by
  unfold doneG
  simp
theorem app_zero {s : ByteArray} {N lf : Int} (hs : nameP s.data.toList = true) (B : List UInt8) (hB : B.length ≤ 1048576) : appG s B (zeroG N lf) = (0, ⟨[(s, [], addB B)], N + 1, false, lf, false⟩) := by
  unfold appG zeroG
  rw [if_neg (by simp), if_neg (by rw [hs]; simp)]
  dsimp only
  rw [if_pos (by rw [atZ_nil]; decide), if_neg (by simp), if_neg (by omega), insK_nil, doneG_free]
  rfl
theorem app_one {s : ByteArray} {S : List UInt8} {N lf : Int} (hs : nameP s.data.toList = true) (B : List UInt8) (hB : S.length + B.length ≤ 1048576) : appG s B (oneG s S N lf) = (0, ⟨[(s, S, addB B)], N + 1, false, lf, false⟩) := by
  unfold appG oneG
  rw [if_neg (by simp), if_neg (by rw [hs]; simp)]
  dsimp only
  rw [if_neg (by rw [atZ_one]; decide), atZ_one]
  rw [if_neg (by simp [runD]; omega), doneG_free]
  simp
theorem sync_one {s : ByteArray} {S : List UInt8} {D : List Deed} {N lf : Int} : syncG s ⟨[(s, S, D)], N, false, lf, false⟩ = (0, oneG s (runD S D) (N + 1) lf) := by
  unfold syncG oneG
  rw [if_neg (by simp)]
  dsimp only
  rw [if_neg (by rw [atZ_one]; decide), atZ_one, doneG_free]
  simp
theorem read_zero {s : ByteArray} {N lf : Int} : readG s (zeroG N lf) = (6, []) := by
  unfold readG zeroG
  rw [if_neg (by simp)]
  dsimp only
  rw [if_pos (by rw [atZ_nil]; decide)]
theorem read_one {s : ByteArray} {S : List UInt8} {N lf : Int} : readG s (oneG s S N lf) = (0, S) := by
  unfold readG oneG
  rw [if_neg (by simp)]
  dsimp only
  rw [if_neg (by rw [atZ_one]; decide), atZ_one]
  simp [runD]
theorem add_one {s : ByteArray} {S : List UInt8} {N lf n z : Int} (hs : nameP s.data.toList = true) (B : List UInt8) (hB : B.length ≤ 65536) (hS : S.length + B.length + 12 ≤ 1048576) :
    addG B ⟨s, n, z, false⟩ (oneG s S N lf) = (0, ⟨s, n + 1, z + ((Fr.putF B).length : Nat), false⟩, oneG s (S ++ Fr.putF B) (N + 2) lf) := by
  have hp := putF_len B
  have h1 : appG s (Fr.putF B) (oneG s S N lf) = _ := app_one hs (Fr.putF B) (by omega)
  unfold addG
  dsimp only
  rw [if_neg (by simp), if_neg (by omega), h1]
  dsimp only
  rw [if_neg (by decide), if_neg (by simp), sync_one, if_neg (by simp), runD_addB]
  rw [show N + 1 + 1 = N + 2 by omega]
theorem open_zero {s : ByteArray} {N lf : Int} (hs : nameP s.data.toList = true) : openG s (zeroG N lf) = (0, some ⟨s, 0, 0, false⟩, [], oneG s [] (N + 2) lf) := by
  unfold openG
  rw [read_zero, if_pos rfl, app_zero hs [] (by simp), if_neg (by simp)]
  unfold openE
  rw [sync_one, if_neg (by simp), runD_addB]
  rw [show N + 1 + 1 = N + 2 by omega]
  rfl
theorem open_one {s : ByteArray} {S : List UInt8} {N lf : Int} {recs : List (List UInt8)} {sz : Nat} (h : Fr.scanF S = (recs, sz, 0)) : openG s (oneG s S N lf) = (0, some ⟨s, (recs.length : Nat), (sz : Nat), false⟩, recs, oneG s S (N + 1) lf) := by
  unfold openG
  rw [read_one, if_neg (by simp), if_neg (by simp), h]
  dsimp only
  rw [if_neg (by decide), if_neg (by decide)]
  unfold openE oneG
  rw [sync_one, if_neg (by simp)]
  rfl
theorem scan_two : Fr.scanF ([] ++ Fr.putF [1, 2] ++ Fr.putF []) = ([[1, 2], []], 26, 0) := by
  have h := Fr.scanF_put [1, 2] (Fr.putF []) (by simp)
  have h2 := Fr.scanF_put [] [] (by simp)
  rw [Fr.scanF_nil] at h2
  rw [List.append_nil] at h2
  rw [h2] at h
  rw [List.nil_append, h]
  rfl
/-- one file alone is within the bounds. -/
theorem oneG_lim {s : ByteArray} {S : List UInt8} {N lf : Int} {q k : Nat} (hS : S.length ≤ q) (hN : 0 ≤ N) (hk : N ≤ k) (hf : 0 ≤ lf ∧ lf ≤ 9223372036854775807) : Lim q k (oneG s S N lf) :=
  ⟨fun x hx => by
    have e : x = (s, S, []) := by simpa [oneG] using hx
    subst e
    simpa [unitsD] using hS, hN, hk, hf.1, hf.2⟩
end Go.Proofs.Ytgbpgmbnihfkkaa
