/- index.In (printed by mkin14.py) -/
import Derived.Test.YtjiiikeniocmfaaGreatMIAt
import Derived.WalkSpells
import Derived.Test.YtjiiikeniocmfaaGreatMSInts
import Derived.Test.YtjiiikeniocmfaaGreatMIDo
import Derived.Test.YtjiiikeniocmfaaGreatMRegS
import Derived.Test.YtjiiikeniocmfaaGreatMQConcat
set_option linter.unusedSimpArgs false
set_option linter.unusedVariables false
namespace Go.Proofs.YtjiiikeniocmfaaGreat
open Go.RowKit Go.Geo
attribute [local go_sem] Oper.semAt_some
def StIn (X : Nat → Prop) (p : Pt) (B g og sg i : Nat) (G : List Reg) (W : World) : List Value → World → Prop
  | [], w => Below W.heap.size W w
  | [a], w => ∃ gs, a = .pointer (some ⟨gs, 0, none⟩) ∧ IdxOn X w B g og sg G ∧ Two og sg W w ∧ SlabOwn w gs (heightsP (G.getD i [])) (slabsR (G.getD i []))
  | [a, b], w => b = .bool (inR p (G.getD i [])) ∧ IdxOn X w B g og sg G ∧ Two og sg W w
  | [a, b, c], w => c = b ∧ b = .bool (inR p (G.getD i [])) ∧ IdxOn X w B g og sg G ∧ Two og sg W w
  | _, _ => False
theorem StIn.two {X : Nat → Prop} {p : Pt} {B g og sg i : Nat} {G : List Reg} {W : World} {vs : List Value} {w : World} (hl : vs.length ≤ 1) (h : StIn X p B g og sg i G W vs w) : Two og sg W w := by
  match vs, h with
  | [], h => exact Two.of h
  | [_], h => obtain ⟨_, _, _, h, _⟩ := h; exact h
  | _ :: _ :: _, _ => simp at hl
set_option maxRecDepth 100000 in
set_option maxHeartbeats 4000000 in
theorem IIn_out (X : Nat → Prop) (B g og sg : Nat) (i : Int) (G : List Reg) (p : Pt) (w : World) (h : IdxOn X w B g og sg G) (hi : i < 0 ∨ (G.length : Int) ≤ i) :
    Calls Tryz.prog 15 #[.pointer (some ⟨g, 0, none⟩), .int .i64 i, ptV p] w fun e w' => e = .returned (.tuple #[.bool false, .int .i64 6]) ∧ Below w.heap.size w w' := by
  obtain ⟨W, hW⟩ : ∃ W, W = w.alloc (.cells #[.int .i64 p.x, .int .i64 p.y] 24) := ⟨_, rfl⟩
  have hb0 : Below w.heap.size w W := by rw [hW]; exact (Below.refl _ _).alloc (Nat.le_refl _) _
  obtain ⟨⟨lv, tg, w0, e1, e2, e3, e4⟩, _⟩ := h.later hb0
  obtain ⟨la, lc, rfl, _⟩ := e2.regs
  have c0 : W.cell? ⟨g, 0, none⟩ = some (.bool true) := cell_of_row _ _ _ _ _ _ e1
  have c1 : W.cell? ⟨g, 1, none⟩ = some (.slice la G.length lc) := cell_of_row _ _ _ _ _ _ e1
  obtain ⟨n, hn⟩ : ∃ n, n = G.length := ⟨_, rfl⟩
  rw [← hn] at c1 hi
  rw [hW] at c0 c1
  have HB0 := Lib.hid hb0
  unfold ptV
  clear e1 e2 e3 e4 hn h hb0
  rcases hi with hi | hi
  · go_enter Tryz.func15, Tryz.ntmps15
    go_wp2_with fail
    go_ret2
    rw [← hW]
    exact ⟨rfl, HB0.out⟩
  · have hi2 : ¬ i < 0 := by omega
    go_enter Tryz.func15, Tryz.ntmps15
    go_wp2_with fail
    go_ret2
    rw [← hW]
    exact ⟨rfl, HB0.out⟩
set_option maxRecDepth 100000 in
set_option maxHeartbeats 4000000 in
theorem IIn_any (X : Nat → Prop) (B g og sg i : Nat) (G : List Reg) (p : Pt) (w : World) (h : IdxOn X w B g og sg G) (hX : ∀ k, X k → k < w.heap.size) (hi : i < G.length) :
    Calls Tryz.prog 15 #[.pointer (some ⟨g, 0, none⟩), .int .i64 (i : Int), ptV p] w fun e w' => e = .returned (.tuple #[.bool (inR p (G.getD i [])), .int .i64 0]) ∧ IdxOn X w' B g og sg G ∧ Two og sg w w' := by
  obtain ⟨bp, hbp⟩ : ∃ b, b = w.heap.size := ⟨_, rfl⟩
  obtain ⟨W, hW⟩ : ∃ W, W = w.alloc (.cells #[.int .i64 p.x, .int .i64 p.y] 24) := ⟨_, rfl⟩
  have hb0 : Below w.heap.size w W := by rw [hW]; exact (Below.refl _ _).alloc (Nat.le_refl _) _
  have hp : W.heap[bp]? = some (.cells #[.int .i64 p.x, .int .i64 p.y] 24 (0, 0)) := by rw [hW, hbp]; exact alloc_new _ _
  have hlt := h.lt
  have hok := h.ok i hi
  have hI := h.later hb0
  obtain ⟨⟨lv, tg, w0, e1, e2, e3, e4⟩, _⟩ := h.later hb0
  obtain ⟨la, lc, rfl, _⟩ := e2.regs
  have c0 : W.cell? ⟨g, 0, none⟩ = some (.bool true) := cell_of_row _ _ _ _ _ _ e1
  have c1 : W.cell? ⟨g, 1, none⟩ = some (.slice la G.length lc) := cell_of_row _ _ _ _ _ _ e1
  have HSL : Hid (∀ wX, Below W.heap.size W wX → Calls Tryz.prog 31 #[.pointer (some ⟨g, 0, none⟩), .int .i64 (i : Int)] wX fun e w' => ∃ u, e = .returned u ∧ StIn X p B g og sg i G W [u] w') := Lib.hid (fun wX hb => by
    refine (slabs_any X B g og sg i G wX (hI.later hb) (fun q hq => by have := hX q hq; have := hb0.size; have := hb.size; omega) hi).mono ?_
    rintro e w' ⟨gs, rfl, k1, k2, k3, k4⟩
    exact ⟨_, rfl, gs, rfl, k1, (Two.of hb).trans k2, k4⟩)
  have HIN : Hid (∀ gs wX, (IdxOn X wX B g og sg G ∧ Two og sg W wX ∧ SlabOwn wX gs (heightsP (G.getD i [])) (slabsR (G.getD i []))) → Calls Tryz.prog 32 #[.pointer (some ⟨gs, 0, none⟩), .agg #[.int .i64 p.x, .int .i64 p.y]] wX fun e w' => e = .returned (.bool (inR p (G.getD i []))) ∧ IdxOn X w' B g og sg G ∧ Two og sg W w') := Lib.hid (fun gs wX hh => by
    obtain ⟨k1, k2, k3⟩ := hh
    refine (SIn_reg gs (G.getD i []) p wX hok k3).mono ?_
    rintro e w' ⟨rfl, hb⟩
    exact ⟨rfl, k1.later hb, k2.trans (Two.of hb)⟩)
  have HBP : Hid (∀ wX, Two og sg W wX → wX.cell? ⟨bp, 0, none⟩ = some (.int .i64 p.x) ∧ wX.cell? ⟨bp, 1, none⟩ = some (.int .i64 p.y)) := Lib.hid (fun wX ht => by
    have hbl : wX.heap[bp]? = _ := (ht.block bp (heap_lt' hp) (by omega) (by omega)).trans hp
    exact ⟨cell_of_row _ _ _ _ _ _ hbl, cell_of_row _ _ _ _ _ _ hbl⟩)
  obtain ⟨n, hn⟩ : ∃ n, n = G.length := ⟨_, rfl⟩
  rw [← hn] at c1
  have hi5 : (i : Int) < (n : Int) := by omega
  have hi6 : ¬ (n : Int) ≤ (i : Int) := by omega
  have hi0 : ¬ (i : Int) < 0 := by omega
  rw [hW] at c0 c1
  have HB0 := Lib.hid hb0
  unfold ptV
  clear h hX hb0 hp hlt hok hI e1 e2 e3 e4 hi hn
  go_enter Tryz.func15, Tryz.ntmps15
  go_wp2_with fail
  rw [← hW, ← hbp]
  clear hW hbp c0 c1
  refine wp_region_J (s := [(30, 0), (31, 1), (32, 2), (33, 3), (34, 4), (6, 5), (7, 6)]) (by kernel_rfl) (ChainJ (fun iX => match iX with | 0 => some (.pointer (some ⟨g, 0, none⟩)) | 1 => some (.int .i64 (i : Int)) | 3 => some (.agg #[.int .i64 p.x, .int .i64 p.y]) | 6 => some (.int .i64 0) | _ => none) [2, 4, 5] (StIn X p B g og sg i G W)) (by kernel_rfl) (by kernel_rfl) (by kernel_rfl) (by kernel_rfl) (fun _ => undef) ?start5 ?step5 ?done5
  case start5 => exact ChainJ.start ((Below.refl _ _).drew)
  case step5 =>
    refine ⟨?o5_0, ?o5_1, ?o5_2, ?o5_3, ?o5_4, ?o5_5, ?o5_6, trivial⟩
    case o5_0 =>
      intro LX V aX wX K hl hp hcl hf hJ hK
      have t0 : aX.tmps[0]? = some (.pointer (some ⟨g, 0, none⟩)) := hf.old (by kernel_rfl) rfl
      rw [if_pos (by rfl)]
      go_simp
      exact hK _ _ (hJ.val 0 _ (by kernel_rfl) rfl (fun _ h => h))
    case o5_1 =>
      intro LX V aX wX K hl hp hcl hf hJ hK
      have t1 : aX.tmps[1]? = some (.int .i64 (i : Int)) := hf.old (by kernel_rfl) rfl
      rw [if_pos (by rfl)]
      go_simp
      exact hK _ _ (hJ.val 1 _ (by kernel_rfl) rfl (fun _ h => h))
    case o5_2 =>
      intro LX V aX wX K hl hp hcl hf hJ hK
      have t30 := hf.in (i := 0) (d := 30) (by kernel_rfl) (hp 0 (by kernel_rfl)) (hJ.vals 0 _ rfl (hp 0 (by kernel_rfl)))
      have t31 := hf.in (i := 1) (d := 31) (by kernel_rfl) (hp 1 (by kernel_rfl)) (hJ.vals 1 _ rfl (hp 1 (by kernel_rfl)))
      rw [if_pos (by rfl)]
      obtain ⟨vs, hlen, hvs, hS, hn⟩ := hJ.next (by kernel_rfl) 0 (by kernel_rfl) hl (.inl rfl) rfl
      match vs, hlen, hvs, hS, hn with
      | [], _, hvs, hS, hn =>
        have HS := Lib.hid hS
        clear hS
        go_simp
        refine (HSL.out wX HS.out).mono ?_
        rintro e wA ⟨u, rfl, hA⟩
        exact hK _ _ (hn _ _ hA)
    case o5_3 =>
      intro LX V aX wX K hl hp hcl hf hJ hK
      have t5 : aX.tmps[5]? = some (.pointer (some ⟨bp, 0, none⟩)) := hf.old (by kernel_rfl) rfl
      obtain ⟨vs, hlen, hS⟩ := hJ.upto 1 (by decide) (hcl.no 4 (by kernel_rfl) hl)
      have hB := StIn.two hlen hS
      obtain ⟨c2, c3⟩ := HBP.out wX hB
      rw [if_pos (by rfl)]
      go_simp
      exact hK _ _ (hJ.val 3 _ (by kernel_rfl) rfl (fun _ h => h))
    case o5_4 =>
      intro LX V aX wX K hl hp hcl hf hJ hK
      have t32 := hf.in (i := 2) (d := 32) (by kernel_rfl) (hp 2 (by kernel_rfl)) rfl
      have t33 := hf.in (i := 3) (d := 33) (by kernel_rfl) (hp 3 (by kernel_rfl)) (hJ.vals 3 _ rfl (hp 3 (by kernel_rfl)))
      rw [if_pos (by rfl)]
      obtain ⟨vs, hlen, hvs, hS, hn⟩ := hJ.next (by kernel_rfl) 1 (by kernel_rfl) hl (.inr (hp 2 (by kernel_rfl))) rfl
      match vs, hlen, hvs, hS, hn with
      | [a0], _, hvs, hS, hn =>
        have e0 : V 2 = a0 := hvs 0 (by decide)
        have HS := Lib.hid hS
        clear hS
        obtain ⟨gs, hgs, hh⟩ := HS.out
        have HH := Lib.hid hh
        rw [e0, hgs] at t32
        clear hgs hh
        go_simp
        refine (HIN.out gs wX HH.out).mono ?_
        rintro e wA ⟨rfl, hA⟩
        exact hK _ _ (hn _ _ ⟨rfl, hA⟩)
    case o5_5 =>
      intro LX V aX wX K hl hp hcl hf hJ hK
      have t34 := hf.in (i := 4) (d := 34) (by kernel_rfl) (hp 4 (by kernel_rfl)) rfl
      rw [if_pos (by rfl)]
      obtain ⟨vs, hlen, hvs, hS, hn⟩ := hJ.next (by kernel_rfl) 2 (by kernel_rfl) hl (.inr (hp 4 (by kernel_rfl))) rfl
      match vs, hlen, hvs, hS, hn with
      | [a0, a1], _, hvs, hS, hn =>
        have e0 : V 2 = a0 := hvs 0 (by decide)
        have e1 : V 4 = a1 := hvs 1 (by decide)
        rw [e1] at t34
        go_simp
        exact hK _ _ (hn _ _ ⟨rfl, hS⟩)
    case o5_6 =>
      intro LX V aX wX K hl hp hcl hf hJ hK
      rw [if_pos (by rfl)]
      go_simp
      exact hK _ _ (hJ.val 6 _ (by kernel_rfl) rfl (fun _ h => h))
  intro V wZ hJ
  obtain ⟨vs, hlen, hvs, hS⟩ := hJ.all (by kernel_rfl)
  match vs, hlen, hvs, hS with
  | [a0, a1, a2], _, hvs, hS =>
    have e0 : V 2 = a0 := hvs 0 (by decide)
    have e1 : V 4 = a1 := hvs 1 (by decide)
    have e2 : V 5 = a2 := hvs 2 (by decide)
    obtain ⟨rfl, rfl, hI5, hT5⟩ := hS
    have HI5 := Lib.hid hI5
    have HT5 := Lib.hid ((Two.of HB0.out).trans hT5)
    have hv7 := hJ.vals 6 _ rfl (by kernel_rfl)
    simp only [puts, Act.put, List.setIfInBounds_toArray, List.set_cons_zero, List.set_cons_succ]
    rw [e2, hv7]
    clear hJ hvs e0 e1 e2 hI5 hT5
    go_wp2_with fail
    go_ret2
    exact ⟨rfl, HI5.out, HT5.out⟩
end Go.Proofs.YtjiiikeniocmfaaGreat

/- apportionkit.SameInts -/
set_option linter.unusedSimpArgs false
set_option linter.unusedVariables false
namespace Go.Proofs.YtjiiikeniocmfaaGreat
open Go.RowKit
theorem eq_of_getDI {L M : List Int} (h : L.length = M.length) (hi : ∀ i, i < L.length → L.getD i 0 = M.getD i 0) : L = M := by
  apply List.ext_getElem?
  intro i
  by_cases h1 : i < L.length
  · have := hi i h1
    rw [List.getD_eq_getElem?_getD, List.getD_eq_getElem?_getD, List.getElem?_eq_getElem h1, List.getElem?_eq_getElem (by omega)] at this
    rw [List.getElem?_eq_getElem h1, List.getElem?_eq_getElem (by omega)]
    simpa using this
  · rw [List.getElem?_eq_none (by omega), List.getElem?_eq_none (by omega)]
set_option maxRecDepth 100000 in
theorem SameInts_any (ao bo : Option Addr) (n m cap cap2 : Nat) (L M : List Int) (w : World) (h1 : IsInts w ao n cap L) (h2 : IsInts w bo m cap2 M) :
    Calls Tryz.prog 16 #[.slice ao n cap, .slice bo m cap2] w fun e w' => e = .returned (.bool (L == M)) ∧ Grew w w' := by
  obtain ⟨r, hr⟩ : ∃ r, r = (L == M) := ⟨_, rfl⟩
  rw [← hr]
  have HR := Lib.hid hr
  have HI1 := Lib.hid h1
  have HI2 := Lib.hid h2
  have hnc := h1.2.1
  have hmc := h2.2.1
  have hcm := h1.2.2.1
  have hcm2 := h2.2.2.1
  unfold maxLen at hcm hcm2
  have HL1 : Hid (L.length = n) := h1.1
  have HL2 : Hid (M.length = m) := h2.1
  by_cases hnm : n = m
  · subst hnm
    clear hr h1 h2
    go_enter Tryz.func16, Tryz.ntmps16
    go_wp2
    go_loopw [5] (fun i wr => ∃ k : Nat, k ≤ n ∧ i = .int .i64 k ∧ Hid (∀ j, j < k → L.getD j 0 = M.getD j 0) ∧ Hid (Grew w wr)) (fun i _ => n - (intOf i).toNat)
    case atStart => exact ⟨0, by omega, rfl, fun j hj => absurd hj (by omega), Grew.refl _⟩
    case round =>
      obtain ⟨k, hk, rfl, hall, hgr⟩ := hrel
      by_cases hlt : k < n
      · have hi0 : (0 : Int) ≤ (k : Int) := by omega
        have hi1 : (k : Int) < (n : Int) := by omega
        obtain ⟨b, off, rfl, hcs⟩ := (HI1.out.grew hgr.out).2.2.2.1 (by omega)
        obtain ⟨b2, off2, rfl, hcs2⟩ := (HI2.out.grew hgr.out).2.2.2.1 (by omega)
        have hc := hcs k hlt
        have hc2 := hcs2 k hlt
        obtain ⟨x, hx⟩ : ∃ x, x = L.getD k 0 := ⟨_, rfl⟩
        obtain ⟨y, hy⟩ : ∃ y, y = M.getD k 0 := ⟨_, rfl⟩
        rw [← hx] at hc
        rw [← hy] at hc2
        have HX := Lib.hid hx
        have HY := Lib.hid hy
        clear hcs hcs2 hx hy
        by_cases hxy : x = y
        · subst hxy
          go_wp2_with fail
          go_region
          go_wp2_with fail
          go_roundw
          case rel =>
            refine ⟨k + 1, by omega, by go_num, fun j hj => ?_, hgr.out.drew⟩
            by_cases hjk : j < k
            · exact hall.out j hjk
            · obtain rfl : j = k := by omega
              rw [← HX.out, ← HY.out]
          case measure => simp [intOf]; omega
        · have hb1 : (x == y) = false := by simpa using hxy
          have hb2 : (x != y) = true := by simpa using hxy
          have hrf : r = false := by
            rw [HR.out, beq_eq_false_iff_ne]
            rintro rfl
            exact hxy (by rw [HX.out, HY.out])
          have HRF := Lib.hid hrf
          clear hxy hrf
          go_wp2_with fail
          go_region
          go_wp2_with fail
          go_ret
          exact ⟨by rw [HRF.out]; rfl, hgr.out.drew⟩
      · obtain rfl : k = n := by omega
        have hrt : r = true := by
          rw [HR.out, beq_iff_eq]
          exact eq_of_getDI (by rw [HL1.out, HL2.out]) (fun i hi => hall.out i (by rw [← HL1.out]; exact hi))
        have HRT := Lib.hid hrt
        clear hrt
        go_wp2
        go_ret
        exact ⟨by rw [HRT.out]; rfl, hgr.out⟩
  · have hb1 : ((n : Int) == (m : Int)) = false := by simp; omega
    have hb2 : (n == m) = false := by simpa using hnm
    have hrf : r = false := by
      rw [hr, beq_eq_false_iff_ne]
      rintro rfl
      exact hnm (by rw [← HL1.out, ← HL2.out])
    have HRF := Lib.hid hrf
    clear hr h1 h2 hnm hrf
    go_enter Tryz.func16, Tryz.ntmps16
    go_wp2
    go_ret
    exact ⟨by rw [HRF.out]; rfl, Grew.refl _⟩
end Go.Proofs.YtjiiikeniocmfaaGreat

/- law14: awake -/
set_option linter.unusedSimpArgs false
set_option linter.unusedVariables false
namespace Go.Proofs.YtjiiikeniocmfaaGreat
open Go.RowKit Go.Geo
attribute [local go_sem] Oper.semAt_some
theorem two_ints (w : World) (x y : Int) : IsInts (w.alloc (Obj.cells #[.int .i64 x, .int .i64 y] 3)) (some ⟨w.heap.size, 0, none⟩) 2 2 [x, y] := by
  have k := alloc_new w (Obj.cells #[.int .i64 x, .int .i64 y] 3)
  refine ⟨rfl, Nat.le_refl _, by unfold maxLen; omega, fun _ => ⟨_, 0, rfl, fun i hi => ?_⟩, fun h => by cases h⟩
  match i, hi with
  | 0, _ => exact cell_of_row _ _ _ _ _ _ k
  | 1, _ => exact cell_of_row _ _ _ _ _ _ k
theorem sm11 : askG (inR ⟨1, 1⟩) smG = [0, 2] := by decide +kernel
theorem sm41 : askG (inR ⟨4, 1⟩) smG = [1, 2] := by decide +kernel
theorem sm88 : askG (inR ⟨8, 8⟩) smG = [] := by decide +kernel
/-- At, of an index whose foreign blocks are let go. -/
theorem IAt_low (B g og sg : Nat) (G : List Reg) (p : Pt) (w : World) (h : IdxOn (fun _ => False) w B g og sg G) (hB : B ≤ w.heap.size) :
    Calls Tryz.prog 12 #[.pointer (some ⟨g, 0, none⟩), ptV p] w fun e w' => ∃ ao cap, e = .returned (.slice ao (askG (inR p) G).length cap) ∧ IsInts w' ao (askG (inR p) G).length cap (askG (inR p) G) ∧ IdxOn (fun _ => False) w' B g og sg G ∧ Below B w w' := by
  refine (IAt_any (fun _ => False) B g og sg G p w h (fun k hk => hk.elim)).mono ?_
  rintro e w' ⟨v, rfl, ho, hi, ht⟩
  obtain ⟨ao, cap, rfl, hs⟩ := ho.ints
  exact ⟨ao, cap, rfl, hs, hi.step (Nat.le_refl _) (fun _ _ _ => rfl) (fun k hk => hk.elim), ht.below h.lo h.ls hB⟩
set_option maxRecDepth 100000 in
set_option maxHeartbeats 2000000 in
theorem awakeI_any (w : World) : Calls Tryz.prog 8 #[] w fun e w' => e = .returned (.bool true) ∧ Below w.heap.size w w' := by
  go_enter Tryz.func8, Tryz.ntmps8
  go_wp2_with fail
  refine (sampleI_any w).mono ?_
  rintro e w1 ⟨g, og, sg, rfl, hx, hb⟩
  have HX1 := Lib.hid hx
  have HB1 := Lib.hid hb
  clear hx hb
  go_wp2_with fail
  refine (atI_any 1 1 w1).mono ?_
  rintro e w2 ⟨rfl, hb2⟩
  have HX2 := Lib.hid (HX1.out.later hb2)
  have HB2 := Lib.hid (HB1.out.trans (hb2.mono HB1.out.size))
  clear hb2
  go_wp2_with fail
  have ha := IAt_low _ g og sg smG ⟨1, 1⟩ w2 HX2.out HB2.out.size
  rw [sm11] at ha
  refine ha.mono ?_
  rintro e w3 ⟨a3, c3, rfl, hi3, hx3, hb3⟩
  have HI3 := Lib.hid hi3
  have HX3 := Lib.hid hx3
  have HB3 := Lib.hid (HB2.out.trans hb3)
  clear hi3 hx3 hb3 ha
  go_wp2_with fail
  refine (SameInts_any a3 _ _ _ c3 2 [0, 2] [0, 2] _ (HI3.out.later ((Below.refl _ _).alloc (Nat.le_refl _) _) (Nat.le_refl _)) (two_ints w3 0 2)).mono ?_
  rintro e w4 ⟨rfl, hg4⟩
  have hb4 : Below w3.heap.size w3 w4 := ((Below.refl _ _).alloc (Nat.le_refl _) _).trans (hg4.1.mono (by simp))
  have HX4 := Lib.hid (HX3.out.later hb4)
  have HB4 := Lib.hid (HB3.out.trans (hb4.mono HB3.out.size))
  have q0 : (([0, 2] : List Int) == [0, 2]) = true := by decide
  clear hg4 hb4
  go_wp2_with fail
  refine (atI_any 4 1 w4).mono ?_
  rintro e w5 ⟨rfl, hb5⟩
  have HX5 := Lib.hid (HX4.out.later hb5)
  have HB5 := Lib.hid (HB4.out.trans (hb5.mono HB4.out.size))
  clear hb5
  go_wp2_with fail
  have ha := IAt_low _ g og sg smG ⟨4, 1⟩ w5 HX5.out HB5.out.size
  rw [sm41] at ha
  refine ha.mono ?_
  rintro e w6 ⟨a6, c6, rfl, hi6, hx6, hb6⟩
  have HI6 := Lib.hid hi6
  have HX6 := Lib.hid hx6
  have HB6 := Lib.hid (HB5.out.trans hb6)
  clear hi6 hx6 hb6 ha
  go_wp2_with fail
  refine (SameInts_any a6 _ _ _ c6 2 [1, 2] [1, 2] _ (HI6.out.later ((Below.refl _ _).alloc (Nat.le_refl _) _) (Nat.le_refl _)) (two_ints w6 1 2)).mono ?_
  rintro e w7 ⟨rfl, hg7⟩
  have hb7 : Below w6.heap.size w6 w7 := ((Below.refl _ _).alloc (Nat.le_refl _) _).trans (hg7.1.mono (by simp))
  have HX7 := Lib.hid (HX6.out.later hb7)
  have HB7 := Lib.hid (HB6.out.trans (hb7.mono HB6.out.size))
  have q1 : (([1, 2] : List Int) == [1, 2]) = true := by decide
  clear hg7 hb7
  go_wp2_with fail
  refine (atI_any 8 8 w7).mono ?_
  rintro e w8 ⟨rfl, hb8⟩
  have HX8 := Lib.hid (HX7.out.later hb8)
  have HB8 := Lib.hid (HB7.out.trans (hb8.mono HB7.out.size))
  clear hb8
  go_wp2_with fail
  have ha := IAt_low _ g og sg smG ⟨8, 8⟩ w8 HX8.out HB8.out.size
  rw [sm88] at ha
  refine ha.mono ?_
  rintro e w9 ⟨a9, c9, rfl, hi9, hx9, hb9⟩
  have HB9 := Lib.hid (HB8.out.trans hb9)
  clear hi9 hx9 hb9 ha
  go_wp2_with fail
  go_ret
  exact ⟨rfl, HB9.out⟩
end Go.Proofs.YtjiiikeniocmfaaGreat

/- a region in whatever order whose effects are one chain, beside operations that float (fl): the predicate of a stage knows what the floating ones have got -/
set_option linter.unusedSimpArgs false
set_option linter.unusedVariables false
namespace Go.Proofs.YtjiiikeniocmfaaGreat
open Go Go.RowKit
/-- what the floating ones have got so far. -/
def flo (fl : List Nat) (L : Nat → Bool) (V : Nat → Value) : Nat → Option Value := fun x => if (fl.contains x && L x) = true then some (V x) else none
theorem flo_at {fl : List Nat} {L : Nat → Bool} {V : Nat → Value} {i : Nat} (h : fl.contains i = true) (hl : L i = true) : flo fl L V i = some (V i) := by unfold flo; rw [h, hl]; rfl
theorem flo_not {fl : List Nat} {L : Nat → Bool} {V : Nat → Value} {i : Nat} (hl : L i = false) : flo fl L V i = none := by unfold flo; rw [hl, Bool.and_false]; rfl
theorem flo_none (fl : List Nat) (V : Nat → Value) : flo fl (fun _ => false) V = fun _ => none := by funext x; exact flo_not rfl
theorem flo_same {fl : List Nat} {L : Nat → Bool} {V : Nat → Value} {i : Nat} {v : Value} (h : fl.contains i = false) : flo fl (upd L i true) (upd V i v) = flo fl L V := by
  funext x
  unfold flo
  by_cases e : x = i
  · subst e; rw [h]; rfl
  · rw [upd_ne _ _ _ _ e, upd_ne _ _ _ _ e]
theorem flo_more {fl : List Nat} {L : Nat → Bool} {V : Nat → Value} {i : Nat} {v : Value} (h : fl.contains i = true) : flo fl (upd L i true) (upd V i v) = upd (flo fl L V) i (some v) := by
  funext x
  by_cases e : x = i
  · subst e; rw [upd_at, flo_at h (upd_at _ _ _), upd_at]
  · rw [upd_ne _ _ _ _ e]; unfold flo; rw [upd_ne _ _ _ _ e, upd_ne _ _ _ _ e]
structure FloatJ (val : Nat → Option Value) (chain : List Nat) (fl : List Nat) (S : List Value → (Nat → Option Value) → World → Prop) (L : Nat → Bool) (V : Nat → Value) (w : World) : Prop where
  vals : ∀ i v, val i = some v → L i = true → V i = v
  here : ∃ vs : List Value, vs.length ≤ chain.length ∧ (∀ j, j < chain.length → L (chain.getD j 0) = decide (j < vs.length)) ∧ (∀ j, j < vs.length → V (chain.getD j 0) = vs.getD j undef) ∧ S vs (flo fl L V) w
theorem FloatJ.start {val : Nat → Option Value} {chain : List Nat} {fl : List Nat} {S : List Value → (Nat → Option Value) → World → Prop} {V : Nat → Value} {w : World} (h : S [] (fun _ => none) w) : FloatJ val chain fl S (fun _ => false) V w :=
  ⟨fun _ _ _ h => (by cases h), [], Nat.zero_le _, fun j _ => by simp, fun j h => absurd h (by simp), by rw [flo_none]; exact h⟩
theorem FloatJ.val {val : Nat → Option Value} {chain : List Nat} {fl : List Nat} {S : List Value → (Nat → Option Value) → World → Prop} {L : Nat → Bool} {V : Nat → Value} {w w' : World} (h : FloatJ val chain fl S L V w) (i : Nat) (v : Value) (hc : chain.contains i = false) (hv : (match val i with | some u => u = v | none => True)) (hfl : fl.contains i = false) (hS : ∀ vs F, S vs F w → S vs F w') : FloatJ val chain fl S (upd L i true) (upd V i v) w' := by
  obtain ⟨h1, vs, h2, h3, h4, h5⟩ := h
  have hne : ∀ j, j < chain.length → chain.getD j 0 ≠ i := fun j hj e => by
    have : chain.contains i = true := List.contains_iff_mem.2 (by
      rw [← e, List.getD_eq_getElem?_getD, List.getElem?_eq_getElem hj, Option.getD_some]
      exact List.getElem_mem _)
    rw [hc] at this
    cases this
  refine ⟨fun j u hj hl => ?_, vs, h2, fun j hj => by rw [upd_ne _ _ _ _ (hne j hj)]; exact h3 j hj, fun j hj => by rw [upd_ne _ _ _ _ (hne j (by omega))]; exact h4 j hj, by rw [flo_same hfl]; exact hS vs _ h5⟩
  by_cases hji : j = i
  · subst hji
    rw [upd_at]
    rw [hj] at hv
    exact hv.symm
  · rw [upd_ne _ _ _ _ hji] at hl ⊢
    exact h1 j u hj hl
theorem FloatJ.float {val : Nat → Option Value} {chain : List Nat} {fl : List Nat} {S : List Value → (Nat → Option Value) → World → Prop} {L : Nat → Bool} {V : Nat → Value} {w w' : World} (h : FloatJ val chain fl S L V w) (i : Nat) (v : Value) (hc : chain.contains i = false) (hv : (match val i with | some u => u = v | none => True)) (hfl : fl.contains i = true) (hl0 : L i = false) (hS : ∀ vs F, F i = none → S vs F w → S vs (upd F i (some v)) w') : FloatJ val chain fl S (upd L i true) (upd V i v) w' := by
  obtain ⟨h1, vs, h2, h3, h4, h5⟩ := h
  have hne : ∀ j, j < chain.length → chain.getD j 0 ≠ i := fun j hj e => by
    have : chain.contains i = true := List.contains_iff_mem.2 (by
      rw [← e, List.getD_eq_getElem?_getD, List.getElem?_eq_getElem hj, Option.getD_some]
      exact List.getElem_mem _)
    rw [hc] at this
    cases this
  refine ⟨fun j u hj hl => ?_, vs, h2, fun j hj => by rw [upd_ne _ _ _ _ (hne j hj)]; exact h3 j hj, fun j hj => by rw [upd_ne _ _ _ _ (hne j (by omega))]; exact h4 j hj, by rw [flo_more hfl]; exact hS vs _ (flo_not hl0) h5⟩
  by_cases hji : j = i
  · subst hji
    rw [upd_at]
    rw [hj] at hv
    exact hv.symm
  · rw [upd_ne _ _ _ _ hji] at hl ⊢
    exact h1 j u hj hl
/-- how far the chain is, at most. -/
theorem FloatJ.upto {val : Nat → Option Value} {chain : List Nat} {fl : List Nat} {S : List Value → (Nat → Option Value) → World → Prop} {L : Nat → Bool} {V : Nat → Value} {w : World} (h : FloatJ val chain fl S L V w) (j : Nat) (hj : j < chain.length) (hl : L (chain.getD j 0) = false) : ∃ vs : List Value, vs.length ≤ j ∧ S vs (flo fl L V) w := by
  obtain ⟨h1, vs, h2, h3, h4, h5⟩ := h
  refine ⟨vs, ?_, h5⟩
  have := h3 j hj
  rw [hl] at this
  have := of_decide_eq_false this.symm
  omega
theorem FloatJ.next {val : Nat → Option Value} {chain : List Nat} {fl : List Nat} {S : List Value → (Nat → Option Value) → World → Prop} {L : Nat → Bool} {V : Nat → Value} {w : World} (h : FloatJ val chain fl S L V w) (hn : decide chain.Nodup = true) (j : Nat) (hj : decide (j < chain.length) = true) (hl : L (chain.getD j 0) = false) (hp : j = 0 ∨ L (chain.getD (j - 1) 0) = true) (hv : val (chain.getD j 0) = none) (hfl : fl.contains (chain.getD j 0) = false) :
    ∃ vs : List Value, vs.length = j ∧ (∀ t, t < j → V (chain.getD t 0) = vs.getD t undef) ∧ S vs (flo fl L V) w ∧ ∀ v w', S (vs ++ [v]) (flo fl L V) w' → FloatJ val chain fl S (upd L (chain.getD j 0) true) (upd V (chain.getD j 0) v) w' := by
  obtain ⟨h1, vs, h2, h3, h4, h5⟩ := h
  have hj := of_decide_eq_true hj
  have hn := of_decide_eq_true hn
  have e1 := h3 j hj
  rw [hl] at e1
  have e1 := of_decide_eq_false e1.symm
  have hlen : vs.length = j := by
    rcases hp with rfl | hp
    · omega
    · by_cases hz : j = 0
      · omega
      · have e2 := h3 (j - 1) (by omega)
        rw [hp] at e2
        have e2 := of_decide_eq_true e2.symm
        omega
  have hne : ∀ t, t < chain.length → t ≠ j → chain.getD t 0 ≠ chain.getD j 0 := fun t ht hne e => by
    rw [List.getD_eq_getElem?_getD, List.getElem?_eq_getElem ht, List.getD_eq_getElem?_getD, List.getElem?_eq_getElem hj, Option.getD_some, Option.getD_some] at e
    exact hne ((List.getElem_inj hn).1 e)
  refine ⟨vs, hlen, fun t ht => h4 t (by omega), h5, fun v w' hS => ⟨fun k u hk hlk => ?_, vs ++ [v], by simp; omega, fun t ht => ?_, fun t ht => ?_, by rw [flo_same hfl]; exact hS⟩⟩
  · have hki : k ≠ chain.getD j 0 := fun e => by subst e; rw [hv] at hk; cases hk
    rw [upd_ne _ _ _ _ hki] at hlk ⊢
    exact h1 k u hk hlk
  · by_cases htj : t = j
    · subst htj
      rw [upd_at]
      simp [hlen]
    · rw [upd_ne _ _ _ _ (hne t ht htj), h3 t ht]
      rw [Bool.eq_iff_iff]
      simp
      omega
  · have ht' : t < j + 1 := by simpa [hlen] using ht
    by_cases htj : t = j
    · subst htj
      rw [upd_at]
      simp [List.getD_eq_getElem?_getD, ← hlen]
    · rw [upd_ne _ _ _ _ (hne t (by omega) htj), h4 t (by omega)]
      simp [List.getD_eq_getElem?_getD, List.getElem?_append_left (show t < vs.length by omega)]
theorem FloatJ.all {val : Nat → Option Value} {chain : List Nat} {fl : List Nat} {S : List Value → (Nat → Option Value) → World → Prop} {n : Nat} {V : Nat → Value} {w : World} (h : FloatJ val chain fl S (fun i => decide (i < n)) V w) (hn : chain.all (fun i => decide (i < n)) = true) : ∃ vs : List Value, vs.length = chain.length ∧ (∀ t, t < chain.length → V (chain.getD t 0) = vs.getD t undef) ∧ S vs (flo fl (fun i => decide (i < n)) V) w := by
  obtain ⟨h1, vs, h2, h3, h4, h5⟩ := h
  have hlen : vs.length = chain.length := by
    by_cases hz : chain.length = 0
    · omega
    · have e := h3 (chain.length - 1) (by omega)
      have hm : chain.getD (chain.length - 1) 0 ∈ chain := by
        rw [List.getD_eq_getElem?_getD, List.getElem?_eq_getElem (by omega), Option.getD_some]
        exact List.getElem_mem _
      have := List.all_eq_true.1 hn _ hm
      rw [this] at e
      have := of_decide_eq_true e.symm
      omega
  exact ⟨vs, hlen, fun t ht => h4 t (by omega), h5⟩
end Go.Proofs.YtjiiikeniocmfaaGreat

/- IndexKnown's walk, its parts -/
set_option linter.unusedSimpArgs false
set_option linter.unusedVariables false
namespace Go.Proofs.YtjiiikeniocmfaaGreat
open Go.RowKit Go.Geo
attribute [local go_sem] Oper.semAt_some
end Go.Proofs.YtjiiikeniocmfaaGreat
