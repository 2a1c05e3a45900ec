/- disk: Crash, where there is the one file "log" -/
import Derived.Test.YtdglaacjefcfdaaNames
namespace Go.Proofs.Ytdglaacjefcfdaa
open Go.RowKit
set_option linter.unusedVariables false
theorem FileOwn.kept {w : World} {f base base' : Nat} {v : Value} {S : List UInt8} {D : List Deed} {z : Int} (h : FileRow w f v (.slice none 0 0)) (ho : OwnB w base v (afterZ S D z)) (hs : S.length + (D.map Deed.units).sum ≤ 4294967296) : FileOwn w f base' (afterZ S D z) [] := by
  obtain ⟨ao, cap, rfl, hb, _⟩ := ho.bytes
  refine ⟨⟨_, _, _, _, h, hb, OwnD.nil _ _⟩, trivial, ?_⟩
  have := afterZ_length D S z
  simp only [List.map_nil, List.sum_nil]
  omega
set_option maxRecDepth 100000 in
set_option maxHeartbeats 2000000 in
theorem Crash_any (d mb f base g : Nat) (k : Int) (S : List UInt8) (D : List Deed) (w : World) (hk0 : -9223372036854775808 ≤ k) (hk1 : k ≤ 9223372036854775807) (h : DiskHas w d mb f base S D) (hg : w.cell? ⟨g, 0, none⟩ = some (.int .i64 k)) :
    Calls Try.prog 25 #[.pointer (some ⟨d, 0, none⟩), .slice (some ⟨g, 0, none⟩) 1 1] w fun e w' => e = .returned (.int .i64 0) ∧ (∃ u : Nat, u ≤ unitsD D ∧ DiskOwn w' (-1) d mb f base (afterZ S D u) []) ∧ Moved d mb f base w w' := by
  obtain ⟨st, fu, out, c, b, hbc, hmd, hd, hm, hf⟩ := h
  have hsm := hf.2.2
  have hu : unitsD D ≤ 4294967296 := by unfold unitsD; omega
  have HN := Lib.hid (none_any d mb st fu out w hd)
  have HNM := Lib.hid (Names_log d mb f b c st fu out w hbc hd hm)
  have HD := Lib.hid (And.intro hbc (And.intro hmd (And.intro hd (And.intro hm hf))))
  clear hbc hmd hd hm hf
  obtain ⟨U, hU⟩ : ∃ U, U = unitsD D := ⟨_, rfl⟩
  rw [← hU] at hu
  have HU := Lib.hid hU
  have HSM := Lib.hid hsm
  clear hU hsm
  go_enter Try.func25, Try.ntmps25
  go_wp2_with fail
  refine HN.out.mono ?_
  rintro e w' ⟨rfl, rfl⟩
  go_wp2_with fail
  refine HNM.out.mono ?_
  rintro e w1 ⟨v, rfl, hrow, hb1⟩
  obtain ⟨av, cv, hv⟩ := ownsRow_shape hrow
  subst hv
  have hcell : ∃ gv, av = some ⟨gv, 0, none⟩ ∧ w1.cell? ⟨gv, 0, none⟩ = some (.string logB) := by
    rcases hrow.2 with ⟨h1, h2⟩ | ⟨gv, cap, cur, h1, hb, hgg, rest⟩
    · cases h1
    · injection h1 with h1 h2 h3
      have hc := hrow.cells (g := gv) (by rw [h1]; rfl) 0 _ rfl
      exact ⟨gv, h1, by simpa [Addr.add] using hc⟩
  obtain ⟨gv, rfl, hcell⟩ := hcell
  have hd1 : DiskRow w1 d mb st fu out := (hb1.block _ HD.out.2.2.1.lt).trans HD.out.2.2.1
  have hm1 := (hb1.block _ (heap_lt HD.out.2.2.2.1)).trans HD.out.2.2.2.1
  have hf1 := HD.out.2.2.2.2.later hb1
  have hg1 : w1.cell? ⟨g, 0, none⟩ = some (.int .i64 k) := (hb1.cell (block_lt_of_cell hg)).trans hg
  have h10 := hd1.cells.1
  have hlk := look_log w1 mb c b (.pointer (some ⟨f, 0, none⟩)) hm1
  have H1 := Lib.hid (And.intro hd1 (And.intro hm1 (And.intro hf1 hb1)))
  have HLO := Lib.hid (loose_at f S D w1 hf1.at)
  clear hd1 hm1 hf1 hb1 hrow
  generalize logB = nm at hcell hlk
  obtain ⟨z, hz⟩ : ∃ z, z = (k.tmod ((U : Int) + 1) + ((U : Int) + 1)).tmod ((U : Int) + 1) := ⟨_, rfl⟩
  have hz01 : 0 ≤ z ∧ z ≤ U := by
    have h1 := Int.tmod_lt_of_pos k (b := (U : Int) + 1) (by omega)
    have h2 : -((U : Int) + 1) < k.tmod ((U : Int) + 1) := by
      have := Int.tmod_lt_of_pos (-k) (b := (U : Int) + 1) (by omega)
      rw [Int.neg_tmod] at this
      omega
    have h3 := Int.tmod_lt_of_pos (k.tmod ((U : Int) + 1) + ((U : Int) + 1)) (b := (U : Int) + 1) (by omega)
    have h4 := Int.tmod_nonneg ((U : Int) + 1) (a := k.tmod ((U : Int) + 1) + ((U : Int) + 1)) (by omega)
    omega
  have hw1 : IntKind.i64.wrap ((U : Int) + 1) = (U : Int) + 1 := IntWalk.i64_in _ (by omega)
  have hw2 : IntKind.i64.wrap (k.tmod ((U : Int) + 1) + ((U : Int) + 1)) = k.tmod ((U : Int) + 1) + ((U : Int) + 1) := IntWalk.i64_in _ (by
    have h1 := Int.tmod_lt_of_pos k (b := (U : Int) + 1) (by omega)
    have h2 : -((U : Int) + 1) < k.tmod ((U : Int) + 1) := by
      have := Int.tmod_lt_of_pos (-k) (b := (U : Int) + 1) (by omega)
      rw [Int.neg_tmod] at this
      omega
    omega)
  have hn0 : ¬ ((U : Int) + 1 = 0) := by omega
  have hn1 : (((U : Int) + 1) == 0) = false := by simp; omega
  have HZ := Lib.hid (And.intro hz hz01)
  clear hz hz01
  go_wp2_with fail
  go_loopw [15] (fun i wr => (i = .int .i64 0 ∧ w1 = wr) ∨ (i = .int .i64 1 ∧ Hid ((∃ v, FileRow wr f v (.slice none 0 0) ∧ OwnB wr w1.heap.size v (afterZ S D z)) ∧ w1.grownBy wr (some f)))) (fun i _ => 1 - (intOf i).toNat)
  case atStart => exact .inl ⟨rfl, rfl⟩
  case round =>
    rcases hrel with ⟨rfl, rfl⟩ | ⟨rfl, hfin⟩
    · go_wp2_with fail
      refine HLO.out.mono ?_
      rintro e w' ⟨rfl, rfl⟩
      rw [← HU.out]
      go_wp2_with fail
      rw [← HZ.out.1]
      refine (settle_any f S D w1 z HZ.out.2.1 (by have := HZ.out.2.2; omega) H1.out.2.2.1.at).mono ?_
      rintro e w2 ⟨rfl, hv2, hgr2⟩
      have HF2 := Lib.hid (And.intro hv2 hgr2)
      clear hv2 hgr2
      go_wp2_with fail
      go_roundw
      case rel => exact .inr ⟨rfl, HF2⟩
      case measure => simp [intOf]
    · obtain ⟨⟨v2, hr2, ho2⟩, hgr2⟩ := hfin.out
      have hfd := H1.out.2.2.1.at.ne_disk H1.out.1
      have hfm := H1.out.2.2.1.at.ne_map H1.out.2.1
      have hd2 : DiskRow wr d mb st fu out := (hgr2.block d H1.out.1.lt (by intro e; injection e with e; exact hfd e.symm)).trans H1.out.1
      have hm2 := (hgr2.block mb (heap_lt H1.out.2.1) (by intro e; injection e with e; exact hfm e.symm)).trans H1.out.2.1
      obtain ⟨_, _, c2, c3⟩ := hd2.cells
      have z2 : wr.frozen? ⟨d, 2, none⟩ = false := frozen_of_row _ _ _ _ _ hd2
      have z3 : wr.frozen? ⟨d, 3, none⟩ = false := frozen_of_row _ _ _ _ _ hd2
      have hr3 := heap_setCell_same wr d 2 _ _ (.int .i64 (-1)) hd2
      have hr4 := heap_setCell_same _ d 3 _ _ (.bool false) hr3
      have hfo := FileOwn.kept (base' := base) hr2 ho2 HSM.out
      have hres : DiskOwn ((wr.setCell ⟨d, 2, none⟩ (.int .i64 (-1))).setCell ⟨d, 3, none⟩ (.bool false)) (-1) d mb f base (afterZ S D z) [] := by
        refine ⟨st, c, b, ⟨by omega, HD.out.1⟩, HD.out.2.1, hr4, ?_, ?_⟩
        · have hmd := HD.out.2.1
          rw [Below.heap_setCell _ _ _ _ (by dsimp only; omega), Below.heap_setCell _ _ _ _ (by dsimp only; omega)]
          exact hm2
        · exact hfo.moved (· = d) (fun _ e => e ▸ hd2.plain) (hfo.at.ne_disk hd2) (fun c t j e hj => by subst e; unfold DiskRow at hd2; rw [hd2] at hj; cases hj) (fun j _ hn => by rw [Below.heap_setCell _ _ _ _ hn, Below.heap_setCell _ _ _ _ hn])
      have hmv : Moved d mb f base w ((wr.setCell ⟨d, 2, none⟩ (.int .i64 (-1))).setCell ⟨d, 3, none⟩ (.bool false)) :=
        (((Moved.of_below H1.out.2.2.2).grown hgr2 (fun k hk => by injection hk with hk; exact .inr (.inr (.inl hk.symm)))).setCell (p := ⟨d, 2, none⟩) (.inl rfl) _).setCell (p := ⟨d, 3, none⟩) (.inl rfl) _
      have HRES := Lib.hid (And.intro hres hmv)
      clear hr2 ho2 hgr2 hfd hfm hd2 hm2 hr3 hr4 hfo hres hmv
      go_wp2_with fail
      go_ret
      obtain ⟨zn, hzn⟩ : ∃ zn : Nat, z = (zn : Int) := ⟨z.toNat, by have := HZ.out.2.1; omega⟩
      refine ⟨rfl, ⟨zn, by have := HZ.out.2.2; rw [← HU.out]; omega, ?_⟩, HRES.out.2⟩
      rw [← hzn]
      exact HRES.out.1
end Go.Proofs.Ytdglaacjefcfdaa
