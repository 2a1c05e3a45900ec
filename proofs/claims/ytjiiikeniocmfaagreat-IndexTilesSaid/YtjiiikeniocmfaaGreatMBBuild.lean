/- boxtree: walk (printed by mkwalk12.py) -/
import Derived.Test.YtjiiikeniocmfaaGreatMBPart0
import Derived.Test.YtjiiikeniocmfaaGreatMBConcat
import Derived.IntWalk
import Derived.Test.YtjiiikeniocmfaaGreatMQCont
import Derived.Test.YtjiiikeniocmfaaGreatMSlabW
import Derived.Shelf.Abstract
import Derived.Test.YtjiiikeniocmfaaGreatMBPart
import Derived.WalkSpells
set_option linter.unusedSimpArgs false
set_option linter.unusedVariables false
namespace Go.Proofs.YtjiiikeniocmfaaGreat
open Go.RowKit Go.Geo
attribute [local go_sem] Oper.semAt_some
/-- a function of boxes that tells q, and only adds to memory. -/
def SoOk (fid pb : Nat) (q : Bx → Bool) (w : World) : Prop := ∀ wX, Below w.heap.size w wX → ∀ b : Bx, Calls Tryz.prog fid #[boxV b.1 b.2, .pointer (some ⟨pb, 0, none⟩)] wX fun e w' => e = .returned (.bool (q b)) ∧ Below wX.heap.size wX w'
theorem SoOk.later {fid pb : Nat} {q : Bx → Bool} {w w' : World} (h : SoOk fid pb q w) (hb : Below w.heap.size w w') : SoOk fid pb q w' := fun wX hX b => h wX (hb.trans (hX.mono hb.size)) b
theorem one_own (w : World) (x : Int) {B : Nat} (hB : B ≤ w.heap.size) : OwnI (w.alloc (.cells #[.int .i64 x] 3)) B (.slice (some ⟨w.heap.size, 0, none⟩) 1 1) [x] :=
  ⟨rfl, .inr ⟨_, _, #[.int .i64 x], rfl, hB, alloc_new w _, Nat.le_refl _, by unfold maxLen; omega, rfl, rfl⟩⟩
def StW (W : World) (x : Int) : List Value → World → Prop
  | [], w => Below W.heap.size W w
  | [a], w => Below W.heap.size W w ∧ OwnI w W.heap.size a [x]
  | [_, b], w => Below W.heap.size W w ∧ OwnI w W.heap.size b [x]
  | _, _ => False
theorem valN_row {w : World} {B g : Nat} {lv ov nv : Value} {L : List Bx} {O : List Int} {N : List Nd} (h : TMem B w g lv ov nv L O N) {i : Nat} {e : Nd} (hi : N[i]? = some e) : ∃ nb nc, nv = .slice (some ⟨nb, 0, none⟩) N.length nc ∧ nc ≤ maxLen ∧ N.length ≤ nc ∧ w.cell? ⟨nb, i * 6, none⟩ = some (.int .i64 (e.from_ : Int)) ∧ w.cell? ⟨nb, i * 6 + 1, none⟩ = some (.int .i64 (e.to_ : Int)) ∧ w.cell? ⟨nb, i * 6 + 2, none⟩ = some (.int .i64 e.all.1.x) ∧ w.cell? ⟨nb, i * 6 + 3, none⟩ = some (.int .i64 e.all.1.y) ∧ w.cell? ⟨nb, i * 6 + 4, none⟩ = some (.int .i64 e.all.2.x) ∧ w.cell? ⟨nb, i * 6 + 5, none⟩ = some (.int .i64 e.all.2.y) := by
  have hlt : i < N.length := (List.getElem?_eq_some_iff.1 hi).1
  have he : N.getD i nd0 = e := by rw [List.getD_eq_getElem?_getD, hi]; rfl
  rcases h.own.n.2 with ⟨_, h0⟩ | ⟨nb, nc, cur, e1, _, hg, hn, hm, hs, _⟩
  · omega
  · obtain ⟨ao, cap, e2, hx⟩ := h.own.n.is
    rw [e1] at e2
    injection e2 with e2 e3 e4
    subst e2 e4
    obtain ⟨b, off, e5, c0, c1, c2, c3, c4, c5⟩ := hx.at hlt
    injection e5 with e5
    injection e5 with e5 e6
    subst e5 e6
    rw [he] at c0 c1 c2 c3 c4 c5
    simp only [Nat.zero_add] at c0 c1 c2 c3 c4 c5
    exact ⟨nb, nc, e1, hm, hn, c0, c1, c2, c3, c4, c5⟩
def WalkR (L : List Bx) (O : List Int) (q : Bx → Bool) (f t : Nat) (w : World) (e : Ending) (w' : World) : Prop := ∃ v, e = .returned v ∧ OwnI w' w.heap.size v ((seg O f t).filter (fun x => q (bxI L x))) ∧ Below w.heap.size w w'
set_option maxRecDepth 100000 in
set_option maxHeartbeats 16000000 in
theorem walk_any (fid pb : Nat) (q : Bx → Bool) (hq : MonoB q) (hent : ∀ args w, (callFunc fid args).run Tryz.prog w = .ok (.enter fid args) w) (B g : Nat) (lv ov nv : Value) (L : List Bx) (O : List Int) (N : List Nd) (hN : N.length ≤ 5000) (hO : O.length ≤ 1000) {i f t : Nat} (htree : TreeAt L N O i f t) :
    t ≤ O.length → ∀ w, TMem B w g lv ov nv L O N → SoOk fid pb q w →
    Calls Tryz.prog 90 #[.pointer (some ⟨g, 0, none⟩), .int .i64 (i : Int), .func (.func fid) #[] #[.pointer (some ⟨pb, 0, none⟩)]] w (WalkR L O q f t w) := by
  induction htree with
  | leaf hn =>
    rename_i i f
    intro hto w hm hso
    obtain ⟨x, hx⟩ : ∃ x, x = O.getD f 0 := ⟨_, rfl⟩
    obtain ⟨b, hb⟩ : ∃ b, b = bxI L (O.getD f 0) := ⟨_, rfl⟩
    rw [← hb] at hn
    have HFX : Hid (seg O f (f + 1) = [x]) := Lib.hid (by rw [hx]; exact seg_one (by omega))
    have HBX : Hid (bxI L x = b) := Lib.hid (by rw [hb, hx])
    have HXX := Lib.hid hx
    clear hb hx
    have htc : ((f + 1 : Nat) : Int) = (f : Int) + 1 := by omega
    have hil : i < N.length := (List.getElem?_eq_some_iff.1 hn).1
    obtain ⟨nb, nc, hnv, hnc, hnl, c0, c1, c2, c3, c4, c5⟩ := valN_row hm hn
    unfold maxLen at hnc
    dsimp only at c0 c1 c2 c3 c4 c5
    obtain ⟨_, _, c8, c9⟩ := hm.row.cell
    rw [hnv] at c9
    obtain ⟨m, hmm⟩ : ∃ m, m = N.length := ⟨_, rfl⟩
    rw [← hmm] at c9 hnl hil
    have hm5 : m ≤ 5000 := by omega
    have hi0 : (0 : Int) ≤ (i : Int) := by omega
    have him : (i : Int) < (m : Int) := by omega
    have hmi : ¬ (m : Int) ≤ (i : Int) := by omega
    have HM := Lib.hid hm
    have HSO := Lib.hid hso
    obtain ⟨g7, hg7⟩ : ∃ b, b = w.heap.size := ⟨_, rfl⟩
    obtain ⟨W4, hW4⟩ : ∃ W, W = w.alloc (.cells #[.int .i64 (f : Int), .int .i64 ((f : Int) + 1), .int .i64 b.1.x, .int .i64 b.1.y, .int .i64 b.2.x, .int .i64 b.2.y] 126) := ⟨_, rfl⟩
    have hb4 : Below w.heap.size w W4 := by rw [hW4]; exact (Below.refl _ _).alloc (Nat.le_refl _) _
    have hr7 : W4.heap[g7]? = some (.cells #[.int .i64 (f : Int), .int .i64 ((f : Int) + 1), .int .i64 b.1.x, .int .i64 b.1.y, .int .i64 b.2.x, .int .i64 b.2.y] 126 (0, 0)) := by rw [hW4, hg7]; exact alloc_new _ _
    have HR7 := Lib.hid hr7
    have HB4 := Lib.hid hb4
    have x0 := cell_of_row _ _ 0 _ _ _ hr7
    have x1 := cell_of_row _ _ 1 _ _ _ hr7
    have x2 := cell_of_row _ _ 2 _ _ _ hr7
    have x3 := cell_of_row _ _ 3 _ _ _ hr7
    have x4 := cell_of_row _ _ 4 _ _ _ hr7
    have x5 := cell_of_row _ _ 5 _ _ _ hr7
    simp at x0 x1 x2 x3 x4 x5
    have hcl := hso W4 hb4 b
    unfold boxV at hcl
    have HCL := Lib.hid hcl
    rw [htc] at c1
    rw [hW4, hg7] at x0 x1 x2 x3 x4 x5
    clear hr7 hb4 hcl hm hso hnv hmm
    have hne : ((f : Int) + 1 == (f : Int)) = false := by simp; omega
    cases hqb : q b with
    | false =>
      rw [hqb] at HCL
      go_enter Tryz.func90, Tryz.ntmps90
      go_wp2_with fail
      rw [← hW4, ← hg7]
      clear hW4 hg7
      refine HCL.out.mono ?_
      rintro e w5 ⟨rfl, hb5⟩
      have HB5 := Lib.hid (HB4.out.trans (hb5.mono HB4.out.size))
      have HQB := Lib.hid hqb
      clear hb5 hqb x0 x1 x2 x3 x4 x5 c0 c1 c2 c3 c4 c5 c8 c9
      go_wp2_with fail
      go_ret
      refine ⟨_, rfl, ?_, HB5.out⟩
      rw [HFX.out]
      have : [x].filter (fun x => q (bxI L x)) = [] := by simp [HBX.out, HQB.out]
      rw [this]
      exact OwnI.nil _ _
    | true =>
      rw [hqb] at HCL
      go_enter Tryz.func90, Tryz.ntmps90
      go_wp2_with fail
      rw [← hW4, ← hg7]
      clear hW4 hg7
      refine HCL.out.mono ?_
      rintro e w5 ⟨rfl, hb5⟩
      have HB5 := Lib.hid (HB4.out.trans (hb5.mono HB4.out.size))
      have HB45 := Lib.hid hb5
      have HQB := Lib.hid hqb
      clear hb5 hqb x0 x1 x2 x3 x4 x5 c0 c1 c2 c3 c4 c5 c8 c9
      have hr7 := (HB45.out.block _ (heap_lt2 HR7.out)).trans HR7.out
      have x0 : w5.cell? ⟨g7, 0, none⟩ = some (.int .i64 (f : Int)) := cell_of_row _ _ _ _ _ _ hr7
      have x1 : w5.cell? ⟨g7, 1, none⟩ = some (.int .i64 ((f : Int) + 1)) := cell_of_row _ _ _ _ _ _ hr7
      have hsub : (f : Int) + 1 - (f : Int) = 1 := by omega
      have hw1 : IntKind.i64.wrap 1 = 1 := IntWalk.i64_in _ (by omega)
      go_wp2_with fail
      obtain ⟨ao, oc, hov, hio⟩ := (HM.out.later HB5.out).own.o.ints
      obtain ⟨bo, oo, rfl, e0⟩ := hio.at (i := f) (by omega)
      obtain ⟨no, hno⟩ : ∃ m, m = O.length := ⟨_, rfl⟩
      rw [← hno] at hov hio
      have hro := (HM.out.later HB5.out).row.cell.2.2.1
      rw [hov] at hro
      rw [← HXX.out] at e0
      have hoc := hio.2.2.1
      have hoc2 := hio.2.1
      unfold maxLen at hoc
      have HCE : Hid (∀ wX, Below w5.heap.size w5 wX → wX.cell? ⟨g, 2, none⟩ = some (.slice (some ⟨bo, oo, none⟩) no oc) ∧ wX.cell? ⟨g7, 0, none⟩ = some (.int .i64 (f : Int)) ∧ wX.cell? ⟨bo, oo + f, none⟩ = some (.int .i64 x)) := Lib.hid (fun wX hX => ⟨(hX.cell (p := ⟨g, 2, none⟩) (block_lt_of_cell hro)).trans hro, (hX.cell (p := ⟨g7, 0, none⟩) (block_lt_of_cell x0)).trans x0, (hX.cell (p := ⟨bo, oo + f, none⟩) (block_lt_of_cell e0)).trans e0⟩)
      have HFN : Hid ((0 : Int) ≤ (f : Int) ∧ (f : Int) < (no : Int)) := Lib.hid ⟨by omega, by omega⟩
      clear hr7 x0 x1 hov hio hno hro e0
      refine wp_region_J (s := [(40, 0), (41, 1), (42, 2), (43, 3), (44, 4), (45, 5), (46, 6), (47, 7), (48, 8), (6, 9)]) (by kernel_rfl) (ChainJ (fun iX => match iX with | 0 => some (.pointer (some ⟨g, 0, none⟩)) | 1 => some (.pointer (some ⟨g, 0, none⟩)) | 2 => some (.pointer (some ⟨g, 2, none⟩)) | 3 => some (.slice (some ⟨bo, oo, none⟩) no oc) | 4 => some (.pointer (some ⟨g7, 0, none⟩)) | 5 => some (.int .i64 (f : Int)) | 6 => some (.pointer (some ⟨bo, oo + f, none⟩)) | 7 => some (.int .i64 (x)) | _ => none) [8, 9] (StW w5 x)) (by kernel_rfl) (by kernel_rfl) (by kernel_rfl) (by kernel_rfl) (fun _ => undef) ?start7 ?step7 ?done7
      case start7 => exact ChainJ.start (((Below.refl _ _).drew))
      case step7 =>
        refine ⟨?o7_0, ?o7_1, ?o7_2, ?o7_3, ?o7_4, ?o7_5, ?o7_6, ?o7_7, ?o7_8, ?o7_9, trivial⟩
        case o7_0 =>
          intro LX V aX wX K hl hp hcl hf hJ hK
          have t0 : aX.tmps[0]? = some (.pointer (some ⟨g, 0, none⟩)) := hf.old (by kernel_rfl) rfl
          rw [if_pos (by rfl)]
          go_simp
          exact hK _ _ (hJ.val 0 _ (by kernel_rfl) rfl (fun _ h => h))
        case o7_1 =>
          intro LX V aX wX K hl hp hcl hf hJ hK
          have t40 := hf.in (i := 0) (d := 40) (by kernel_rfl) (hp 0 (by kernel_rfl)) (hJ.vals 0 _ rfl (hp 0 (by kernel_rfl)))
          rw [if_pos (by rfl)]
          go_simp
          exact hK _ _ (hJ.val 1 _ (by kernel_rfl) rfl (fun _ h => h))
        case o7_2 =>
          intro LX V aX wX K hl hp hcl hf hJ hK
          have t41 := hf.in (i := 1) (d := 41) (by kernel_rfl) (hp 1 (by kernel_rfl)) (hJ.vals 1 _ rfl (hp 1 (by kernel_rfl)))
          rw [if_pos (by rfl)]
          go_simp
          exact hK _ _ (hJ.val 2 _ (by kernel_rfl) rfl (fun _ h => h))
        case o7_3 =>
          intro LX V aX wX K hl hp hcl hf hJ hK
          have t42 := hf.in (i := 2) (d := 42) (by kernel_rfl) (hp 2 (by kernel_rfl)) (hJ.vals 2 _ rfl (hp 2 (by kernel_rfl)))
          obtain ⟨vs, hlen, hS⟩ := hJ.upto 0 (by decide) (hcl.no 8 (by kernel_rfl) (hcl.no 7 (by kernel_rfl) (hcl.no 6 (by kernel_rfl) (hl))))
          have hB : Below w5.heap.size w5 wX := by
            match vs, hlen, hS with
            | [], _, hS => exact hS
            | _ :: _, h, _ => exact absurd h (by simp)
          obtain ⟨c0, c1, c2⟩ := HCE.out wX hB
          rw [if_pos (by rfl)]
          go_simp
          exact hK _ _ (hJ.val 3 _ (by kernel_rfl) rfl (fun _ h => h))
        case o7_4 =>
          intro LX V aX wX K hl hp hcl hf hJ hK
          have t7 : aX.tmps[7]? = some (.pointer (some ⟨g7, 0, none⟩)) := hf.old (by kernel_rfl) rfl
          rw [if_pos (by rfl)]
          go_simp
          exact hK _ _ (hJ.val 4 _ (by kernel_rfl) rfl (fun _ h => h))
        case o7_5 =>
          intro LX V aX wX K hl hp hcl hf hJ hK
          have t44 := hf.in (i := 4) (d := 44) (by kernel_rfl) (hp 4 (by kernel_rfl)) (hJ.vals 4 _ rfl (hp 4 (by kernel_rfl)))
          obtain ⟨vs, hlen, hS⟩ := hJ.upto 0 (by decide) (hcl.no 8 (by kernel_rfl) (hcl.no 7 (by kernel_rfl) (hcl.no 6 (by kernel_rfl) (hl))))
          have hB : Below w5.heap.size w5 wX := by
            match vs, hlen, hS with
            | [], _, hS => exact hS
            | _ :: _, h, _ => exact absurd h (by simp)
          obtain ⟨c0, c1, c2⟩ := HCE.out wX hB
          rw [if_pos (by rfl)]
          go_simp
          exact hK _ _ (hJ.val 5 _ (by kernel_rfl) rfl (fun _ h => h))
        case o7_6 =>
          intro LX V aX wX K hl hp hcl hf hJ hK
          have t43 := hf.in (i := 3) (d := 43) (by kernel_rfl) (hp 3 (by kernel_rfl)) (hJ.vals 3 _ rfl (hp 3 (by kernel_rfl)))
          have t45 := hf.in (i := 5) (d := 45) (by kernel_rfl) (hp 5 (by kernel_rfl)) (hJ.vals 5 _ rfl (hp 5 (by kernel_rfl)))
          obtain ⟨h1, h2⟩ := HFN.out
          rw [if_pos (by rfl)]
          go_simp
          exact hK _ _ (hJ.val 6 _ (by kernel_rfl) rfl (fun _ h => h))
        case o7_7 =>
          intro LX V aX wX K hl hp hcl hf hJ hK
          have t46 := hf.in (i := 6) (d := 46) (by kernel_rfl) (hp 6 (by kernel_rfl)) (hJ.vals 6 _ rfl (hp 6 (by kernel_rfl)))
          obtain ⟨vs, hlen, hS⟩ := hJ.upto 0 (by decide) (hcl.no 8 (by kernel_rfl) hl)
          have hB : Below w5.heap.size w5 wX := by
            match vs, hlen, hS with
            | [], _, hS => exact hS
            | _ :: _, h, _ => exact absurd h (by simp)
          obtain ⟨c0, c1, c2⟩ := HCE.out wX hB
          rw [if_pos (by rfl)]
          go_simp
          exact hK _ _ (hJ.val 7 _ (by kernel_rfl) rfl (fun _ h => h))
        case o7_8 =>
          intro LX V aX wX K hl hp hcl hf hJ hK
          have t47 := hf.in (i := 7) (d := 47) (by kernel_rfl) (hp 7 (by kernel_rfl)) (hJ.vals 7 _ rfl (hp 7 (by kernel_rfl)))
          rw [if_pos (by rfl)]
          obtain ⟨vs, hlen, hvs, hS, hn⟩ := hJ.next (by kernel_rfl) 0 (by kernel_rfl) hl (.inl rfl) rfl
          match vs, hlen, hvs, hS, hn with
          | [], _, hvs, hS, hn =>
            go_simp
            exact hK _ _ (hn _ _ ⟨hS.alloc hS.size _, one_own wX x hS.size⟩)
        case o7_9 =>
          intro LX V aX wX K hl hp hcl hf hJ hK
          have t48 := hf.in (i := 8) (d := 48) (by kernel_rfl) (hp 8 (by kernel_rfl)) rfl
          rw [if_pos (by rfl)]
          obtain ⟨vs, hlen, hvs, hS, hn⟩ := hJ.next (by kernel_rfl) 1 (by kernel_rfl) hl (.inr (hp 8 (by kernel_rfl))) rfl
          match vs, hlen, hvs, hS, hn with
          | [a0], _, hvs, hS, hn =>
            have e0 : V 8 = a0 := hvs 0 (by decide)
            obtain ⟨h1, h3⟩ := hS
            rw [e0] at t48
            go_simp
            exact hK _ _ (hn _ _ ⟨h1, h3⟩)
      intro V wZ hJ
      obtain ⟨vs, hlen, hvs, hS⟩ := hJ.all (by kernel_rfl)
      match vs, hlen, hvs, hS with
      | [a0, a1], _, hvs, hS =>
        have e0 : V 8 = a0 := hvs 0 (by decide)
        have e1 : V 9 = a1 := hvs 1 (by decide)
        have HZ := Lib.hid hS
        simp only [puts, Act.put, List.setIfInBounds_toArray, List.set_cons_zero, List.set_cons_succ]
        rw [e1]
        clear hJ hvs hS
        go_wp2_with fail
        go_ret
        refine ⟨_, rfl, ?_, HB5.out.trans (HZ.out.1.mono HB5.out.size)⟩
        rw [HFX.out]
        have : [x].filter (fun x => q (bxI L x)) = [x] := by simp [HBX.out, HQB.out]
        rw [this]
        exact HZ.out.2.base HB5.out.size
  | node hft hn hb hl hr ihl ihr =>
    rename_i i f t b
    intro hto w hm hso
    have hil : i < N.length := (List.getElem?_eq_some_iff.1 hn).1
    obtain ⟨nb, nc, hnv, hnc, hnl, c0, c1, c2, c3, c4, c5⟩ := valN_row hm hn
    unfold maxLen at hnc
    dsimp only at c0 c1 c2 c3 c4 c5
    obtain ⟨_, _, c8, c9⟩ := hm.row.cell
    rw [hnv] at c9
    obtain ⟨m, hmm⟩ : ∃ m, m = N.length := ⟨_, rfl⟩
    rw [← hmm] at c9 hnl hil
    have hm5 : m ≤ 5000 := by omega
    have hi0 : (0 : Int) ≤ (i : Int) := by omega
    have him : (i : Int) < (m : Int) := by omega
    have hmi : ¬ (m : Int) ≤ (i : Int) := by omega
    have HM := Lib.hid hm
    have HSO := Lib.hid hso
    obtain ⟨g7, hg7⟩ : ∃ b, b = w.heap.size := ⟨_, rfl⟩
    obtain ⟨W4, hW4⟩ : ∃ W, W = w.alloc (.cells #[.int .i64 (f : Int), .int .i64 (t : Int), .int .i64 b.1.x, .int .i64 b.1.y, .int .i64 b.2.x, .int .i64 b.2.y] 126) := ⟨_, rfl⟩
    have hb4 : Below w.heap.size w W4 := by rw [hW4]; exact (Below.refl _ _).alloc (Nat.le_refl _) _
    have hr7 : W4.heap[g7]? = some (.cells #[.int .i64 (f : Int), .int .i64 (t : Int), .int .i64 b.1.x, .int .i64 b.1.y, .int .i64 b.2.x, .int .i64 b.2.y] 126 (0, 0)) := by rw [hW4, hg7]; exact alloc_new _ _
    have HR7 := Lib.hid hr7
    have HB4 := Lib.hid hb4
    have x0 := cell_of_row _ _ 0 _ _ _ hr7
    have x1 := cell_of_row _ _ 1 _ _ _ hr7
    have x2 := cell_of_row _ _ 2 _ _ _ hr7
    have x3 := cell_of_row _ _ 3 _ _ _ hr7
    have x4 := cell_of_row _ _ 4 _ _ _ hr7
    have x5 := cell_of_row _ _ 5 _ _ _ hr7
    simp at x0 x1 x2 x3 x4 x5
    have hcl := hso W4 hb4 b
    unfold boxV at hcl
    have HCL := Lib.hid hcl
    skip
    rw [hW4, hg7] at x0 x1 x2 x3 x4 x5
    clear hr7 hb4 hcl hm hso hnv hmm
    have hne : ((t : Int) == (f : Int)) = false := by simp; omega
    cases hqb : q b with
    | false =>
      rw [hqb] at HCL
      go_enter Tryz.func90, Tryz.ntmps90
      go_wp2_with fail
      rw [← hW4, ← hg7]
      clear hW4 hg7
      refine HCL.out.mono ?_
      rintro e w5 ⟨rfl, hb5⟩
      have HB5 := Lib.hid (HB4.out.trans (hb5.mono HB4.out.size))
      have HFN : Hid ((seg O f t).filter (fun x => q (bxI L x)) = []) := Lib.hid (filter_none hq hb hqb)
      clear hb5 hqb x0 x1 x2 x3 x4 x5 c0 c1 c2 c3 c4 c5 c8 c9
      go_wp2_with fail
      go_ret
      refine ⟨_, rfl, ?_, HB5.out⟩
      rw [HFN.out]
      exact OwnI.nil _ _
    | true =>
      rw [hqb] at HCL
      go_enter Tryz.func90, Tryz.ntmps90
      go_wp2_with fail
      rw [← hW4, ← hg7]
      clear hW4 hg7
      refine HCL.out.mono ?_
      rintro e w5 ⟨rfl, hb5⟩
      have HB5 := Lib.hid (HB4.out.trans (hb5.mono HB4.out.size))
      have HB45 := Lib.hid hb5
      clear hb5 hqb x0 x1 x2 x3 x4 x5 c0 c1 c2 c3 c4 c5 c8 c9
      have hr7 := (HB45.out.block _ (heap_lt2 HR7.out)).trans HR7.out
      have x0 : w5.cell? ⟨g7, 0, none⟩ = some (.int .i64 (f : Int)) := cell_of_row _ _ _ _ _ _ hr7
      have x1 : w5.cell? ⟨g7, 1, none⟩ = some (.int .i64 (t : Int)) := cell_of_row _ _ _ _ _ _ hr7
      have hwt : IntKind.i64.wrap ((t : Int) - (f : Int)) = (t : Int) - (f : Int) := IntWalk.i64_in _ (by omega)
      have hn1 : ((t : Int) - (f : Int) == 1) = false := by simp; omega
      have hw3 : IntKind.i64.wrap (2 * (i : Int)) = 2 * (i : Int) := IntWalk.i64_in _ (by omega)
      have hw4 : IntKind.i64.wrap (2 * (i : Int) + 1) = 2 * (i : Int) + 1 := IntWalk.i64_in _ (by omega)
      have hw5 : IntKind.i64.wrap (2 * (i : Int) + 2) = 2 * (i : Int) + 2 := IntWalk.i64_in _ (by omega)
      have hmm := halfN_bounds (n := t - f) (by omega)
      have hil := ihl (by omega) w5 (HM.out.later HB5.out) (HSO.out.later HB5.out)
      rw [show ((2 * i + 1 : Nat) : Int) = 2 * (i : Int) + 1 by omega] at hil
      have HIL := Lib.hid hil
      have HIR := Lib.hid (ihr hto)
      clear hil hr7 ihl ihr hl hr hn hb
      go_wp2_with fail
      refine HIL.out.mono ?_
      rintro e w6 ⟨v1, rfl, ho1, hb6⟩
      have HB6 := Lib.hid (HB5.out.trans (hb6.mono HB5.out.size))
      have HB56 := Lib.hid hb6
      have hir := HIR.out w6 (HM.out.later HB6.out) (HSO.out.later HB6.out)
      rw [show ((2 * i + 2 : Nat) : Int) = 2 * (i : Int) + 2 by omega] at hir
      have HIR2 := Lib.hid hir
      have HO1 := Lib.hid ho1
      clear hb6 hir ho1 x0 x1
      go_wp2_with fail
      refine HIR2.out.mono ?_
      rintro e w7 ⟨v2, rfl, ho2, hb7⟩
      obtain ⟨L1, hL1⟩ : ∃ l, l = (seg O f (f + halfN (t - f))).filter (fun x => q (bxI L x)) := ⟨_, rfl⟩
      obtain ⟨L2, hL2⟩ : ∃ l, l = (seg O (f + halfN (t - f)) t).filter (fun x => q (bxI L x)) := ⟨_, rfl⟩
      have hl1 : L1.length ≤ 1000 := by
        rw [hL1]
        refine Nat.le_trans (List.length_filter_le _ _) ?_
        rw [seg_length (by omega)]; omega
      have hl2 : L2.length ≤ 1000 := by
        rw [hL2]
        refine Nat.le_trans (List.length_filter_le _ _) ?_
        rw [seg_length (by omega)]; omega
      have HLL : Hid ((seg O f t).filter (fun x => q (bxI L x)) = [L1, L2].flatten) := Lib.hid (by
        rw [seg_cut (O := O) (f := f) (m := f + halfN (t - f)) (t := t) (by omega) (by omega), List.filter_append, ← hL1, ← hL2]
        simp)
      rw [← hL2] at ho2
      have ho1 := HO1.out
      rw [← hL1] at ho1
      have HB7 := Lib.hid (HB6.out.trans (hb7.mono HB6.out.size))
      obtain ⟨a1, k1, hv1, hi1⟩ := (ho1.later hb7).ints
      obtain ⟨a2, k2, hv2, hi2⟩ := ho2.ints
      obtain ⟨n1, hn1'⟩ : ∃ m, m = L1.length := ⟨_, rfl⟩
      obtain ⟨n2, hn2'⟩ : ∃ m, m = L2.length := ⟨_, rfl⟩
      rw [← hn1'] at hv1 hi1
      rw [← hn2'] at hv2 hi2
      subst hv1 hv2
      obtain ⟨W8, hW8⟩ : ∃ W, W = w7.alloc (.cells #[.slice a1 n1 k1, .slice a2 n2 k2] 22) := ⟨_, rfl⟩
      have hb8 : Below w7.heap.size w7 W8 := by rw [hW8]; exact (Below.refl _ _).alloc (Nat.le_refl _) _
      have hrow8 : W8.heap[w7.heap.size]? = some (.cells #[.slice a1 n1 k1, .slice a2 n2 k2] 22 (0, 0)) := by rw [hW8]; exact alloc_new _ _
      have hrows : IsIRows W8 (some ⟨w7.heap.size, 0, none⟩) 2 2 [L1, L2] := by
        refine ⟨rfl, Nat.le_refl _, by unfold maxLen; omega, fun k hk => ?_⟩
        match k, hk with
        | 0, _ => exact ⟨_, _, _, _, _, rfl, cell_of_row _ _ _ _ _ _ hrow8, hi1.later hb8 (Nat.le_refl _)⟩
        | 1, _ => exact ⟨_, _, _, _, _, rfl, cell_of_row _ _ _ _ _ _ hrow8, hi2.later hb8 (Nat.le_refl _)⟩
      have HCC := Lib.hid (Concat_ints _ 2 2 [L1, L2] W8 hrows (by unfold sumI; simp; omega))
      have HB8 := Lib.hid (HB7.out.trans (hb8.mono HB7.out.size))
      clear hrows hrow8 hb8 hi1 hi2 ho1 ho2 hL1 hL2 hb7 hl1 hl2 hn1' hn2'
      go_wp2_with fail
      rw [← hW8]
      clear hW8
      refine HCC.out.mono ?_
      rintro e w9 ⟨v, rfl, ho, hb9⟩
      have H9 := Lib.hid (And.intro ho hb9)
      clear ho hb9
      go_wp2_with fail
      go_ret
      exact ⟨_, rfl, by rw [HLL.out]; exact H9.out.1.base HB8.out.size, HB8.out.trans (H9.out.2.mono HB8.out.size)⟩
end Go.Proofs.YtjiiikeniocmfaaGreat

/- boxtree: asks, At, Over of a tree that stands -/
set_option linter.unusedSimpArgs false
set_option linter.unusedVariables false
namespace Go.Proofs.YtjiiikeniocmfaaGreat
open Go.RowKit Go.Geo
attribute [local go_sem] Oper.semAt_some
/-- a tree that stands, in blocks of B and above. -/
def TreeOn (w : World) (B g : Nat) (L : List Bx) : Prop := ∃ lv ov nv O N, TMem B w g lv ov nv L O N ∧ N.length ≤ 5000 ∧ O.Perm (allI L.length) ∧ Laid L true (allI L.length) O ∧ ((L = [] ∧ N = []) ∨ TreeAt L N O 0 0 L.length)
theorem TreeOn.move {w w' : World} {B g : Nat} {L : List Bx} (h : TreeOn w B g L) (hk : ∀ k, B ≤ k → k < w.heap.size → w'.heap[k]? = w.heap[k]?) : TreeOn w' B g L := by
  obtain ⟨lv, ov, nv, O, N, hm, h2⟩ := h
  have hg := heap_lt2 hm.row
  exact ⟨lv, ov, nv, O, N, ⟨(hk g hm.own.low hg).trans hm.row, ⟨ownsRow_move hm.own.l fun k e => hk k (hm.own.l.lt k e).1 (hm.own.l.lt k e).2, ownsRow_move hm.own.o fun k e => hk k (hm.own.o.lt k e).1 (hm.own.o.lt k e).2, ownsRow_move hm.own.n fun k e => hk k (hm.own.n.lt k e).1 (hm.own.n.lt k e).2, hm.own.low⟩⟩, h2⟩
/-- a tree that stands. -/
structure TreeIs (w : World) (g : Nat) (L : List Bx) : Prop where
  ex : ∃ B lv ov nv O N, TMem B w g lv ov nv L O N ∧ N.length ≤ 5000 ∧ O.Perm (allI L.length) ∧ Laid L true (allI L.length) O ∧ ((L = [] ∧ N = []) ∨ TreeAt L N O 0 0 L.length)
  few : L.length ≤ 1000
theorem TreeIs.later {w w' : World} {g : Nat} {L : List Bx} (h : TreeIs w g L) (hb : Below w.heap.size w w') : TreeIs w' g L := by
  obtain ⟨⟨B, lv, ov, nv, O, N, h1, h2⟩, h3⟩ := h
  exact ⟨⟨B, lv, ov, nv, O, N, h1.later hb, h2⟩, h3⟩
def AskR (q : Bx → Bool) (L : List Bx) (w : World) (e : Ending) (w' : World) : Prop := ∃ v, e = .returned v ∧ OwnI w' w.heap.size v (askB q L) ∧ Below w.heap.size w w'
set_option maxRecDepth 100000 in
set_option maxHeartbeats 4000000 in
theorem walk_none (fid pb : Nat) (B g : Nat) (lv ov nv : Value) (L : List Bx) (O : List Int) (w : World) (hm : TMem B w g lv ov nv L O []) :
    Calls Tryz.prog 90 #[.pointer (some ⟨g, 0, none⟩), .int .i64 0, .func (.func fid) #[] #[.pointer (some ⟨pb, 0, none⟩)]] w fun e w' => e = .returned (.slice none 0 0) ∧ w = w' := by
  obtain ⟨na, nc, hnv, _⟩ := hm.own.n.is
  obtain ⟨_, _, _, c9⟩ := hm.row.cell
  rw [hnv] at c9
  have c10 : w.cell? ⟨g, 3, none⟩ = some (.slice na 0 nc) := c9
  clear c9 hnv hm
  go_enter Tryz.func90, Tryz.ntmps90
  go_wp2_with fail
  go_ret
  exact ⟨rfl, rfl⟩
set_option maxRecDepth 100000 in
set_option maxHeartbeats 4000000 in
theorem asks_any (fid pb : Nat) (q : Bx → Bool) (hq : MonoB q) (hent : ∀ args w, (callFunc fid args).run Tryz.prog w = .ok (.enter fid args) w) (g : Nat) (L : List Bx) (w : World) (h : TreeIs w g L) (hso : SoOk fid pb q w) :
    Calls Tryz.prog 54 #[.pointer (some ⟨g, 0, none⟩), .func (.func fid) #[] #[.pointer (some ⟨pb, 0, none⟩)]] w (AskR q L w) := by
  obtain ⟨⟨B, lv, ov, nv, O, N, hm, hN, hO, _, hc⟩, hL⟩ := h
  have hOl : O.length = L.length := by rw [hO.length_eq, allI_len]
  have hW : Calls Tryz.prog 90 #[.pointer (some ⟨g, 0, none⟩), .int .i64 0, .func (.func fid) #[] #[.pointer (some ⟨pb, 0, none⟩)]] w fun e w' => ∃ v, e = .returned v ∧ OwnI w' w.heap.size v (O.filter (fun x => q (bxI L x))) ∧ Below w.heap.size w w' := by
    rcases hc with ⟨rfl, rfl⟩ | ht
    · have : O = [] := List.eq_nil_of_length_eq_zero hOl
      subst this
      refine (walk_none fid pb B g lv ov nv [] [] w hm).mono ?_
      rintro e w' ⟨rfl, rfl⟩
      exact ⟨_, rfl, OwnI.nil _ _, Below.refl _ _⟩
    · have h1 := walk_any fid pb q hq hent B g lv ov nv L O N hN (by omega) ht (by omega) w hm hso
      refine h1.mono ?_
      rintro e w' ⟨v, rfl, ho, hb⟩
      have hs : seg O 0 L.length = O := by unfold seg; rw [List.drop_zero, Nat.sub_zero, List.take_of_length_le (by omega)]
      rw [hs] at ho
      exact ⟨v, rfl, ho, hb⟩
  have HW := Lib.hid hW
  have HO := Lib.hid hO
  have hfl : (O.filter (fun x => q (bxI L x))).length ≤ 1000 := Nat.le_trans (List.length_filter_le _ _) (by omega)
  have HFL := Lib.hid hfl
  clear hW hO hm hc hso hOl hfl
  go_enter Tryz.func54, Tryz.ntmps54
  go_wp2_with fail
  refine HW.out.mono ?_
  rintro e w1 ⟨v, rfl, ho, hb⟩
  have HS := Lib.hid (Sort_ints w.heap.size v _ w1 ho (by have := HFL.out; omega))
  have HB := Lib.hid hb
  have HOW := Lib.hid ho
  obtain ⟨av, cv, hv, _⟩ := ho.ints
  obtain ⟨n, hn⟩ : ∃ n, n = (O.filter (fun x => q (bxI L x))).length := ⟨_, rfl⟩
  rw [← hn] at hv
  subst hv
  clear ho hb hn
  go_wp2_with fail
  refine HS.out.mono ?_
  rintro e w2 ⟨rfl, M, hM, hp, hs, hg⟩
  have HM := Lib.hid (And.intro hM (And.intro hp (And.intro hs hg)))
  clear hM hp hs hg
  go_wp2_with fail
  go_ret
  refine ⟨_, rfl, ?_, HB.out.grown HM.out.2.2.2 HB.out.size (fun k hk => (HOW.out.lt k hk).1)⟩
  rw [← ask_sorted HO.out HM.out.2.1 HM.out.2.2.1]
  exact HM.out.1
theorem enters_at : ∀ args w, (callFunc 55 args).run Tryz.prog w = .ok (.enter 55 args) w := enters_of Tryz.func55 (by kernel_rfl) rfl
set_option maxRecDepth 100000 in
set_option maxHeartbeats 2000000 in
theorem at1_ok (p : Pt) (pb : Nat) (w : World) (hp : w.heap[pb]? = some (.cells #[.int .i64 p.x, .int .i64 p.y] 24 (0, 0))) : SoOk 55 pb (fun b => boxIn p b.1 b.2) w := by
  intro wX hX b
  dsimp only
  have hp2 := (hX.block pb (heap_lt2 hp)).trans hp
  obtain ⟨W, hW⟩ : ∃ W, W = wX.alloc (.cells #[.int .i64 b.1.x, .int .i64 b.1.y, .int .i64 b.2.x, .int .i64 b.2.y] 66) := ⟨_, rfl⟩
  have hb : Below wX.heap.size wX W := by rw [hW]; exact (Below.refl _ _).alloc (Nat.le_refl _) _
  have hp3 := (hb.block pb (heap_lt2 hp2)).trans hp2
  have c0 : W.cell? ⟨pb, 0, none⟩ = some (.int .i64 p.x) := cell_of_row _ _ _ _ _ _ hp3
  have c1 : W.cell? ⟨pb, 1, none⟩ = some (.int .i64 p.y) := cell_of_row _ _ _ _ _ _ hp3
  have HI := Lib.hid (In_any p b.1 b.2 W)
  have HB := Lib.hid hb
  obtain ⟨r, hr⟩ : ∃ r, r = boxIn p b.1 b.2 := ⟨_, rfl⟩
  rw [← hr] at HI ⊢
  rw [hW] at c0 c1
  unfold boxV ptV at *
  clear hp hp2 hX hb hp3 hr
  go_enter Tryz.func55, Tryz.ntmps55
  go_wp2_with fail
  rw [← hW]
  clear hW c0 c1
  refine HI.out.mono ?_
  rintro e w1 ⟨rfl, hg⟩
  have HG := Lib.hid (HB.out.trans (hg.1.mono HB.out.size))
  clear hg
  go_wp2_with fail
  go_ret
  exact ⟨rfl, HG.out⟩
def atQ (p : Pt) (b : Bx) : Bool := boxIn p b.1 b.2
set_option maxRecDepth 100000 in
set_option maxHeartbeats 2000000 in
theorem At_any (g : Nat) (L : List Bx) (p : Pt) (w : World) (h : TreeIs w g L) :
    Calls Tryz.prog 33 #[.pointer (some ⟨g, 0, none⟩), ptV p] w (AskR (atQ p) L w) := by
  obtain ⟨W, hW⟩ : ∃ W, W = w.alloc (.cells #[.int .i64 p.x, .int .i64 p.y] 24) := ⟨_, rfl⟩
  have hb : Below w.heap.size w W := by rw [hW]; exact (Below.refl _ _).alloc (Nat.le_refl _) _
  have hp : W.heap[w.heap.size]? = some (.cells #[.int .i64 p.x, .int .i64 p.y] 24 (0, 0)) := by rw [hW]; exact alloc_new _ _
  have HA := Lib.hid (asks_any 55 w.heap.size (fun b => boxIn p b.1 b.2) (mono_in p) enters_at g L W (h.later hb) (at1_ok p w.heap.size W hp))
  have HB := Lib.hid hb
  clear h hb hp
  unfold ptV
  go_enter Tryz.func33, Tryz.ntmps33
  go_wp2_with fail
  rw [← hW]
  clear hW
  refine HA.out.mono ?_
  rintro e w1 ⟨v, rfl, ho, hb1⟩
  have H1 := Lib.hid (And.intro ho hb1)
  clear ho hb1
  go_wp2_with fail
  go_ret
  exact ⟨v, rfl, H1.out.1.base HB.out.size, HB.out.trans (H1.out.2.mono HB.out.size)⟩
end Go.Proofs.YtjiiikeniocmfaaGreat

/- boxtree.Build; Len, Depth, Box, Order of a tree -/
set_option linter.unusedSimpArgs false
set_option linter.unusedVariables false
namespace Go.Proofs.YtjiiikeniocmfaaGreat
open Go.RowKit Go.Geo
attribute [local go_sem] Oper.semAt_some
theorem OwnX.none_new (w : World) (base : Nat) (hb : base ≤ w.heap.size) : OwnX (w.alloc (Obj.cells #[] 66)) base (.slice (some ⟨w.heap.size, 0, none⟩) 0 0) [] :=
  ⟨rfl, .inr ⟨_, _, #[], rfl, hb, alloc_new w _, Nat.le_refl _, by unfold maxLen; omega, rfl, rfl⟩⟩
theorem below_grownX {w w1 w' : World} {base : Nat} {v : Value} {L : List Bx} (h : Below base w w1) (hown : OwnX w1 base v L) (hg : w1.grownBy w' v.ownBlock) (hb : base ≤ w1.heap.size) : Below base w w' :=
  h.grown hg hb fun k hk => (hown.lt k hk).1
set_option maxRecDepth 100000 in
theorem Clone_boxes (ao : Option Addr) (n cap : Nat) (L : List Bx) (w : World) (h : IsX w ao n cap L) (hn : n ≤ 100000) :
    Calls Tryz.prog 48 #[.slice ao n cap] w fun e w' => ∃ v, e = .returned v ∧ OwnX w' w.heap.size v L ∧ Below w.heap.size w w' := by
  cases ao with
  | none =>
    obtain ⟨rfl, rfl⟩ := h.2.2.2.1 rfl
    obtain rfl : L = [] := List.eq_nil_of_length_eq_zero h.1
    have hql := fun w' => Lib.run_eql_slice_nil (P := Tryz.prog) w' 63 66 none 0 0 0 0 Tryz.underlying63
    clear h hn
    go_enter Tryz.func48, Tryz.ntmps48
    go_wp2
    go_ret
    exact ⟨_, rfl, OwnX.nil _ _, Below.refl _ _⟩
  | some ad =>
    have HS := Lib.hid h
    have hql := fun w' => Lib.run_eql_slice_nil (P := Tryz.prog) w' 63 66 (some ad) n cap 0 0 Tryz.underlying63
    clear h
    go_enter Tryz.func48, Tryz.ntmps48
    go_wp2_with (refine wpList_append_X rfl _ _ rfl w.heap.size (.slice (some ⟨w.heap.size, 0, none⟩) 0 0) [] rfl (OwnX.none_new w _ (Nat.le_refl _)) (some ad) n cap L rfl (HS.out.later ((Below.refl _ _).alloc (Nat.le_refl _) _) (Nat.le_refl _)) (by simp; omega) (by simp) ?_; intro v' w' hown hgr hfr)
    go_ret
    exact ⟨_, rfl, hown, below_grownX ((Below.refl _ _).alloc (Nat.le_refl _) _) (OwnX.none_new w _ (Nat.le_refl _)) hgr (by simp)⟩
/-- the row of the order grows. -/
theorem TOwn.growO {B g : Nat} {w w' : World} {lv ov nv o1 : Value} {L : List Bx} {O M : List Int} {N : List Nd} (h : TOwn B w g lv ov nv L O N) (ho : OwnI w' B o1 M) (hg : w.grownBy w' ov.ownBlock) : TOwn B w' g lv o1 nv L M N :=
  ⟨World.ownsRow.kept h.l hg (own_apart (by decide) h.o h.l), ho, World.ownsRow.kept h.n hg (own_apart (by decide) h.o h.n), h.low⟩
theorem TreeRow.set2 {w : World} {g : Nat} {lv ov nv : Value} (h : TreeRow w g lv ov nv) (u : Value) : TreeRow (w.setCell ⟨g, 2, none⟩ u) g lv u nv := heap_setCell_same _ _ 2 _ _ u h
theorem TreeRow.grownO {B g : Nat} {w w' : World} {lv ov nv : Value} {L : List Bx} {O : List Int} {N : List Nd} (h : TreeRow w g lv ov nv) (ho : TOwn B w g lv ov nv L O N) (hg : w.grownBy w' ov.ownBlock) : TreeRow w' g lv ov nv :=
  (hg.block g (heap_lt2 h) (fun e => own_typed ho.o h (by decide) e.symm)).trans h
def BuildR (L : List Bx) (w : World) (e : Ending) (w' : World) : Prop := (1000 < L.length → e = .returned (.tuple #[.pointer none, .int .i64 3])) ∧ (L.length ≤ 1000 → ∃ g, e = .returned (.tuple #[.pointer (some ⟨g, 0, none⟩), .int .i64 0]) ∧ TreeOn w' w.heap.size g L ∧ TreeIs w' g L) ∧ Below w.heap.size w w'
theorem allI_nodup (n : Nat) : (allI n).Nodup := (allI_sorted n).imp fun h => by omega
set_option maxRecDepth 100000 in
set_option maxHeartbeats 8000000 in
theorem BuildT_any (ao : Option Addr) (n cap : Nat) (L : List Bx) (w : World) (h : IsX w ao n cap L) (hin : InB L) :
    Calls Tryz.prog 30 #[.slice ao n cap] w (BuildR L w) := by
  have hn := h.1
  have hcm := h.2.2.1
  have hnc := h.2.1
  unfold maxLen at hcm
  by_cases h1000 : 1000 < n
  · have h5 : (1000 : Int) < (n : Int) := by omega
    have HN := Lib.hid hn
    clear h hn
    go_enter Tryz.func30, Tryz.ntmps30
    go_wp2_with fail
    go_ret2
    exact ⟨fun _ => rfl, fun hl => absurd hl (by rw [HN.out]; omega), Below.refl _ _⟩
  · have h5 : ¬ (1000 : Int) < (n : Int) := by omega
    have HCL := Lib.hid (Clone_boxes ao n cap L w h (by omega))
    have HL := Lib.hid hn
    clear h hn
    go_enter Tryz.func30, Tryz.ntmps30
    go_wp2_with fail
    refine HCL.out.mono ?_
    rintro e w1 ⟨v, rfl, ho, hb⟩
    obtain ⟨la, lc, hv, hix⟩ := ho.is
    rw [HL.out] at hv
    obtain ⟨g, hg⟩ : ∃ g, g = w1.heap.size := ⟨_, rfl⟩
    obtain ⟨W2, hW2⟩ : ∃ W, W = w1.alloc (.cells #[.bool true, .slice la n lc, .slice none 0 0, .slice none 0 0] 88) := ⟨_, rfl⟩
    have hb2 : Below w1.heap.size w1 W2 := by rw [hW2]; exact (Below.refl _ _).alloc (Nat.le_refl _) _
    have hr2 : TreeRow W2 g (.slice la n lc) (.slice none 0 0) (.slice none 0 0) := by rw [hW2, hg]; exact alloc_new _ _
    subst hv
    have hm2 : TMem w.heap.size W2 g (.slice la n lc) (.slice none 0 0) (.slice none 0 0) L (allI 0) [] := ⟨hr2, ho.later hb2, OwnI.nil _ _, OwnN.nil _ _, by rw [hg]; exact hb.size⟩
    have HM2 := Lib.hid hm2
    have HB2 := Lib.hid (hb.trans (hb2.mono hb.size))
    have HG := Lib.hid (show w.heap.size ≤ g from by rw [hg]; exact hb.size)
    clear ho hb hix hb2 hr2 hm2
    go_wp2_with fail
    rw [← hW2, ← hg]
    clear hW2 hg
    go_loopw [15] (fun i wr => ∃ k : Nat, k ≤ n ∧ i = .int .i64 k ∧ Hid (∃ ov, TMem w.heap.size wr g (.slice la n lc) ov (.slice none 0 0) L (allI k) [] ∧ Below w.heap.size w wr)) (fun i _ => n - (intOf i).toNat)
    case atStart => exact ⟨0, by omega, rfl, Lib.hid ⟨_, HM2.out, HB2.out⟩⟩
    case round =>
      obtain ⟨k, hk, rfl, hst⟩ := hrel
      obtain ⟨ov, hm, hbl⟩ := hst.out
      have HM := Lib.hid hm
      have HBL := Lib.hid hbl
      have c2 := hm.row.cell.2.2.1
      clear hst hm hbl
      by_cases hlt : k < n
      · have hk5 : (k : Int) < (n : Int) := by omega
        have hwk : IntKind.i64.wrap ((k : Int) + 1) = (k : Int) + 1 := IntWalk.i64_in _ (by omega)
        have hm1 := HM.out.later ((Below.refl _ _).alloc (Nat.le_refl _) (.cells #[.int .i64 (k : Int)] 3))
        have HM1 := Lib.hid hm1
        have c2' := hm1.row.cell.2.2.1
        have hkl : (allI k).length + 1 ≤ 1000000000 := by rw [allI_len]; omega
        have HKL := Lib.hid hkl
        clear hm1 hkl
        go_wp2_with (at_builtin; refine wpList_append_ints rfl _ _ rfl w.heap.size ov (allI k) rfl HM1.out.own.o _ _ _ [(k : Int)] rfl (one_ints wr (k : Int)) HKL.out (by have := HBL.out.size; simp; omega) ?_
                     intro v7 w7 hown7 hg7
                     have ht7 := HM1.out.own.growO hown7 hg7
                     have hr7 := HM1.out.row.grownO HM1.out.own hg7
                     obtain ⟨a7, c7, hv7, _⟩ := hown7.ints
                     obtain ⟨n7, hn7⟩ : ∃ m, m = (allI k ++ [(k : Int)]).length := ⟨_, rfl⟩
                     rw [← hn7] at hv7
                     subst hv7
                     have hb7 : Below w.heap.size w w7 := (HBL.out.alloc HBL.out.size (.cells #[.int .i64 (k : Int)] 3)).grown hg7 (by have := HBL.out.size; simp; omega) (fun b hb => (HM1.out.own.o.lt b hb).1)
                     have hc7 := hr7.cell.2.2.1
                     have hf7 := hr7.frozen 2
                     have H8 : Hid (TMem w.heap.size (w7.setCell ⟨g, 2, none⟩ (.slice a7 n7 c7)) g (.slice la n lc) (.slice a7 n7 c7) (.slice none 0 0) L (allI k ++ [(k : Int)]) [] ∧ Below w.heap.size w (w7.setCell ⟨g, 2, none⟩ (.slice a7 n7 c7))) := Lib.hid ⟨⟨hr7.set2 _, ht7.set hr7 rfl⟩, hb7.setCell (p := ⟨g, 2, none⟩) HG.out _⟩
                     clear hown7 hg7 ht7 hr7 hb7 hn7)
        go_roundw
        case rel => exact ⟨k + 1, by omega, by go_num, Lib.hid ⟨_, by rw [allI_succ]; exact H8.out.1, H8.out.2⟩⟩
        case measure => simp [intOf]; omega
      · have hkn : n = k := by omega
        subst hkn
        have hk5 : ¬ (n : Int) < (n : Int) := by omega
        by_cases h0 : n = 0
        · subst h0
          have hz : ¬ (0 : Int) < ((0 : Nat) : Int) := by omega
          go_wp2_with fail
          go_ret2
          have hLn : L = [] := List.eq_nil_of_length_eq_zero HL.out
          have hTO : ∀ wq, (∃ lv ov nv O N, TMem w.heap.size wq g lv ov nv L O N ∧ N.length ≤ 5000 ∧ O.Perm (allI L.length) ∧ Laid L true (allI L.length) O ∧ ((L = [] ∧ N = []) ∨ TreeAt L N O 0 0 L.length)) → TreeOn wq w.heap.size g L := fun _ h => h
          have hTO2 := hTO _ ⟨_, _, _, _, _, HM.out, by simp, by rw [HL.out], by rw [HL.out]; exact .few (by rw [allI_len]; omega), .inl ⟨hLn, rfl⟩⟩
          exact ⟨fun hl => absurd hl (by rw [HL.out]; omega), fun _ => ⟨g, rfl, hTO2, ⟨_, hTO2⟩, by rw [HL.out]; omega⟩, HBL.out⟩
        · have hz : (0 : Int) < (n : Int) := by omega
          obtain ⟨ao', co, hov, hio⟩ := HM.out.own.o.ints
          rw [allI_len] at hov hio
          obtain ⟨og, _, hao, _⟩ := hio.at (i := 0) (by omega)
          have hob : ∃ og, ao' = some ⟨og, 0, none⟩ := by
            rcases HM.out.own.o.2 with ⟨e, hz0⟩ | ⟨g', _, _, e, _⟩
            · rw [allI_len] at hz0; omega
            · rw [hov] at e
              injection e with e _ _
              exact ⟨g', e⟩
          obtain ⟨og, rfl⟩ := hob
          subst hov
          have hpre : PPre w.heap.size g (.slice la n lc) (.slice (some ⟨og, 0, none⟩) n co) L 0 0 n wr (allI n) [] (.slice none 0 0) :=
            ⟨by omega, by rw [allI_len]; exact Nat.le_refl _, HM.out, allI_nodup n, fun x hx => by have := allI_mem.1 hx; rw [HL.out]; omega, by rw [allI_len]; omega, by simp, by omega, by omega⟩
          have hpa := part_any w.heap.size g L la n lc og n co hin HL.out.symm (by omega) n 0 0 n true wr (allI n) [] (.slice none 0 0) (by omega) (allI_len n).symm hpre
          have HPA := Lib.hid hpa
          clear hpa hpre hio hao
          go_wp2_with fail
          refine HPA.out.mono ?_
          rintro e w5 ⟨O', N', nv', rfl, hpo⟩
          have HPO := Lib.hid hpo
          clear hpo c2
          go_wp2_with fail
          go_ret2
          have hs0 : ∀ {O : List Int}, O.length = n → seg O 0 n = O := fun {O} hl => by unfold seg; rw [List.drop_zero, Nat.sub_zero, List.take_of_length_le (by omega)]
          have hl' := HPO.out.perm.length_eq
          rw [allI_len] at hl'
          have hlaid := HPO.out.laid
          rw [hs0 (allI_len n), hs0 hl'] at hlaid
          have hTO : ∀ wq, (∃ lv ov nv O N, TMem w.heap.size wq g lv ov nv L O N ∧ N.length ≤ 5000 ∧ O.Perm (allI L.length) ∧ Laid L true (allI L.length) O ∧ ((L = [] ∧ N = []) ∨ TreeAt L N O 0 0 L.length)) → TreeOn wq w.heap.size g L := fun _ h => h
          have hTO2 := hTO _ ⟨_, _, _, _, _, HPO.out.mem, HPO.out.small, by rw [HL.out]; exact HPO.out.perm, by rw [HL.out]; exact hlaid, .inr (by rw [HL.out]; exact HPO.out.tree)⟩
          exact ⟨fun hl => absurd hl (by rw [HL.out]; omega), fun _ => ⟨g, rfl, hTO2, ⟨_, hTO2⟩, by rw [HL.out]; omega⟩, HBL.out.trans (HPO.out.kp.below HM.out)⟩
end Go.Proofs.YtjiiikeniocmfaaGreat
