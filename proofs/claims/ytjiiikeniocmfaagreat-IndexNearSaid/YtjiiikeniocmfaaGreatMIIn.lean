/- index.In (printed by mkin14.py) -/
import Derived.Test.YtjiiikeniocmfaaGreatMIAt
import Derived.WalkSpells
set_option linter.unusedSimpArgs false
set_option linter.unusedVariables false
namespace Go.Proofs.YtjiiikeniocmfaaGreat
open Go.RowKit Go.Geo
attribute [local go_sem] Oper.semAt_some
def StIn (X : Nat → Prop) (p : Pt) (B g og sg i : Nat) (G : List Reg) (W : World) : List Value → World → Prop
  | [], w => Below W.heap.size W w
  | [a], w => ∃ gs, a = .pointer (some ⟨gs, 0, none⟩) ∧ IdxOn X w B g og sg G ∧ Two og sg W w ∧ SlabOwn w gs (heightsP (G.getD i [])) (slabsR (G.getD i []))
  | [a, b], w => b = .bool (inR p (G.getD i [])) ∧ IdxOn X w B g og sg G ∧ Two og sg W w
  | [a, b, c], w => c = b ∧ b = .bool (inR p (G.getD i [])) ∧ IdxOn X w B g og sg G ∧ Two og sg W w
  | _, _ => False
theorem StIn.two {X : Nat → Prop} {p : Pt} {B g og sg i : Nat} {G : List Reg} {W : World} {vs : List Value} {w : World} (hl : vs.length ≤ 1) (h : StIn X p B g og sg i G W vs w) : Two og sg W w := by
  match vs, h with
  | [], h => exact Two.of h
  | [_], h => obtain ⟨_, _, _, h, _⟩ := h; exact h
  | _ :: _ :: _, _ => simp at hl
set_option maxRecDepth 100000 in
set_option maxHeartbeats 4000000 in
theorem IIn_out (X : Nat → Prop) (B g og sg : Nat) (i : Int) (G : List Reg) (p : Pt) (w : World) (h : IdxOn X w B g og sg G) (hi : i < 0 ∨ (G.length : Int) ≤ i) :
    Calls Tryz.prog 15 #[.pointer (some ⟨g, 0, none⟩), .int .i64 i, ptV p] w fun e w' => e = .returned (.tuple #[.bool false, .int .i64 6]) ∧ Below w.heap.size w w' := by
  obtain ⟨W, hW⟩ : ∃ W, W = w.alloc (.cells #[.int .i64 p.x, .int .i64 p.y] 24) := ⟨_, rfl⟩
  have hb0 : Below w.heap.size w W := by rw [hW]; exact (Below.refl _ _).alloc (Nat.le_refl _) _
  obtain ⟨⟨lv, tg, w0, e1, e2, e3, e4⟩, _⟩ := h.later hb0
  obtain ⟨la, lc, rfl, _⟩ := e2.regs
  have c0 : W.cell? ⟨g, 0, none⟩ = some (.bool true) := cell_of_row _ _ _ _ _ _ e1
  have c1 : W.cell? ⟨g, 1, none⟩ = some (.slice la G.length lc) := cell_of_row _ _ _ _ _ _ e1
  obtain ⟨n, hn⟩ : ∃ n, n = G.length := ⟨_, rfl⟩
  rw [← hn] at c1 hi
  rw [hW] at c0 c1
  have HB0 := Lib.hid hb0
  unfold ptV
  clear e1 e2 e3 e4 hn h hb0
  rcases hi with hi | hi
  · go_enter Tryz.func15, Tryz.ntmps15
    go_wp2_with fail
    go_ret2
    rw [← hW]
    exact ⟨rfl, HB0.out⟩
  · have hi2 : ¬ i < 0 := by omega
    go_enter Tryz.func15, Tryz.ntmps15
    go_wp2_with fail
    go_ret2
    rw [← hW]
    exact ⟨rfl, HB0.out⟩
set_option maxRecDepth 100000 in
set_option maxHeartbeats 4000000 in
theorem IIn_any (X : Nat → Prop) (B g og sg i : Nat) (G : List Reg) (p : Pt) (w : World) (h : IdxOn X w B g og sg G) (hX : ∀ k, X k → k < w.heap.size) (hi : i < G.length) :
    Calls Tryz.prog 15 #[.pointer (some ⟨g, 0, none⟩), .int .i64 (i : Int), ptV p] w fun e w' => e = .returned (.tuple #[.bool (inR p (G.getD i [])), .int .i64 0]) ∧ IdxOn X w' B g og sg G ∧ Two og sg w w' := by
  obtain ⟨bp, hbp⟩ : ∃ b, b = w.heap.size := ⟨_, rfl⟩
  obtain ⟨W, hW⟩ : ∃ W, W = w.alloc (.cells #[.int .i64 p.x, .int .i64 p.y] 24) := ⟨_, rfl⟩
  have hb0 : Below w.heap.size w W := by rw [hW]; exact (Below.refl _ _).alloc (Nat.le_refl _) _
  have hp : W.heap[bp]? = some (.cells #[.int .i64 p.x, .int .i64 p.y] 24 (0, 0)) := by rw [hW, hbp]; exact alloc_new _ _
  have hlt := h.lt
  have hok := h.ok i hi
  have hI := h.later hb0
  obtain ⟨⟨lv, tg, w0, e1, e2, e3, e4⟩, _⟩ := h.later hb0
  obtain ⟨la, lc, rfl, _⟩ := e2.regs
  have c0 : W.cell? ⟨g, 0, none⟩ = some (.bool true) := cell_of_row _ _ _ _ _ _ e1
  have c1 : W.cell? ⟨g, 1, none⟩ = some (.slice la G.length lc) := cell_of_row _ _ _ _ _ _ e1
  have HSL : Hid (∀ wX, Below W.heap.size W wX → Calls Tryz.prog 31 #[.pointer (some ⟨g, 0, none⟩), .int .i64 (i : Int)] wX fun e w' => ∃ u, e = .returned u ∧ StIn X p B g og sg i G W [u] w') := Lib.hid (fun wX hb => by
    refine (slabs_any X B g og sg i G wX (hI.later hb) (fun q hq => by have := hX q hq; have := hb0.size; have := hb.size; omega) hi).mono ?_
    rintro e w' ⟨gs, rfl, k1, k2, k3, k4⟩
    exact ⟨_, rfl, gs, rfl, k1, (Two.of hb).trans k2, k4⟩)
  have HIN : Hid (∀ gs wX, (IdxOn X wX B g og sg G ∧ Two og sg W wX ∧ SlabOwn wX gs (heightsP (G.getD i [])) (slabsR (G.getD i []))) → Calls Tryz.prog 32 #[.pointer (some ⟨gs, 0, none⟩), .agg #[.int .i64 p.x, .int .i64 p.y]] wX fun e w' => e = .returned (.bool (inR p (G.getD i []))) ∧ IdxOn X w' B g og sg G ∧ Two og sg W w') := Lib.hid (fun gs wX hh => by
    obtain ⟨k1, k2, k3⟩ := hh
    refine (SIn_reg gs (G.getD i []) p wX hok k3).mono ?_
    rintro e w' ⟨rfl, hb⟩
    exact ⟨rfl, k1.later hb, k2.trans (Two.of hb)⟩)
  have HBP : Hid (∀ wX, Two og sg W wX → wX.cell? ⟨bp, 0, none⟩ = some (.int .i64 p.x) ∧ wX.cell? ⟨bp, 1, none⟩ = some (.int .i64 p.y)) := Lib.hid (fun wX ht => by
    have hbl : wX.heap[bp]? = _ := (ht.block bp (heap_lt' hp) (by omega) (by omega)).trans hp
    exact ⟨cell_of_row _ _ _ _ _ _ hbl, cell_of_row _ _ _ _ _ _ hbl⟩)
  obtain ⟨n, hn⟩ : ∃ n, n = G.length := ⟨_, rfl⟩
  rw [← hn] at c1
  have hi5 : (i : Int) < (n : Int) := by omega
  have hi6 : ¬ (n : Int) ≤ (i : Int) := by omega
  have hi0 : ¬ (i : Int) < 0 := by omega
  rw [hW] at c0 c1
  have HB0 := Lib.hid hb0
  unfold ptV
  clear h hX hb0 hp hlt hok hI e1 e2 e3 e4 hi hn
  go_enter Tryz.func15, Tryz.ntmps15
  go_wp2_with fail
  rw [← hW, ← hbp]
  clear hW hbp c0 c1
  refine wp_region_J (s := [(30, 0), (31, 1), (32, 2), (33, 3), (34, 4), (6, 5), (7, 6)]) (by kernel_rfl) (ChainJ (fun iX => match iX with | 0 => some (.pointer (some ⟨g, 0, none⟩)) | 1 => some (.int .i64 (i : Int)) | 3 => some (.agg #[.int .i64 p.x, .int .i64 p.y]) | 6 => some (.int .i64 0) | _ => none) [2, 4, 5] (StIn X p B g og sg i G W)) (by kernel_rfl) (by kernel_rfl) (by kernel_rfl) (by kernel_rfl) (fun _ => undef) ?start5 ?step5 ?done5
  case start5 => exact ChainJ.start ((Below.refl _ _).drew)
  case step5 =>
    refine ⟨?o5_0, ?o5_1, ?o5_2, ?o5_3, ?o5_4, ?o5_5, ?o5_6, trivial⟩
    case o5_0 =>
      intro LX V aX wX K hl hp hcl hf hJ hK
      have t0 : aX.tmps[0]? = some (.pointer (some ⟨g, 0, none⟩)) := hf.old (by kernel_rfl) rfl
      rw [if_pos (by rfl)]
      go_simp
      exact hK _ _ (hJ.val 0 _ (by kernel_rfl) rfl (fun _ h => h))
    case o5_1 =>
      intro LX V aX wX K hl hp hcl hf hJ hK
      have t1 : aX.tmps[1]? = some (.int .i64 (i : Int)) := hf.old (by kernel_rfl) rfl
      rw [if_pos (by rfl)]
      go_simp
      exact hK _ _ (hJ.val 1 _ (by kernel_rfl) rfl (fun _ h => h))
    case o5_2 =>
      intro LX V aX wX K hl hp hcl hf hJ hK
      have t30 := hf.in (i := 0) (d := 30) (by kernel_rfl) (hp 0 (by kernel_rfl)) (hJ.vals 0 _ rfl (hp 0 (by kernel_rfl)))
      have t31 := hf.in (i := 1) (d := 31) (by kernel_rfl) (hp 1 (by kernel_rfl)) (hJ.vals 1 _ rfl (hp 1 (by kernel_rfl)))
      rw [if_pos (by rfl)]
      obtain ⟨vs, hlen, hvs, hS, hn⟩ := hJ.next (by kernel_rfl) 0 (by kernel_rfl) hl (.inl rfl) rfl
      match vs, hlen, hvs, hS, hn with
      | [], _, hvs, hS, hn =>
        have HS := Lib.hid hS
        clear hS
        go_simp
        refine (HSL.out wX HS.out).mono ?_
        rintro e wA ⟨u, rfl, hA⟩
        exact hK _ _ (hn _ _ hA)
    case o5_3 =>
      intro LX V aX wX K hl hp hcl hf hJ hK
      have t5 : aX.tmps[5]? = some (.pointer (some ⟨bp, 0, none⟩)) := hf.old (by kernel_rfl) rfl
      obtain ⟨vs, hlen, hS⟩ := hJ.upto 1 (by decide) (hcl.no 4 (by kernel_rfl) hl)
      have hB := StIn.two hlen hS
      obtain ⟨c2, c3⟩ := HBP.out wX hB
      rw [if_pos (by rfl)]
      go_simp
      exact hK _ _ (hJ.val 3 _ (by kernel_rfl) rfl (fun _ h => h))
    case o5_4 =>
      intro LX V aX wX K hl hp hcl hf hJ hK
      have t32 := hf.in (i := 2) (d := 32) (by kernel_rfl) (hp 2 (by kernel_rfl)) rfl
      have t33 := hf.in (i := 3) (d := 33) (by kernel_rfl) (hp 3 (by kernel_rfl)) (hJ.vals 3 _ rfl (hp 3 (by kernel_rfl)))
      rw [if_pos (by rfl)]
      obtain ⟨vs, hlen, hvs, hS, hn⟩ := hJ.next (by kernel_rfl) 1 (by kernel_rfl) hl (.inr (hp 2 (by kernel_rfl))) rfl
      match vs, hlen, hvs, hS, hn with
      | [a0], _, hvs, hS, hn =>
        have e0 : V 2 = a0 := hvs 0 (by decide)
        have HS := Lib.hid hS
        clear hS
        obtain ⟨gs, hgs, hh⟩ := HS.out
        have HH := Lib.hid hh
        rw [e0, hgs] at t32
        clear hgs hh
        go_simp
        refine (HIN.out gs wX HH.out).mono ?_
        rintro e wA ⟨rfl, hA⟩
        exact hK _ _ (hn _ _ ⟨rfl, hA⟩)
    case o5_5 =>
      intro LX V aX wX K hl hp hcl hf hJ hK
      have t34 := hf.in (i := 4) (d := 34) (by kernel_rfl) (hp 4 (by kernel_rfl)) rfl
      rw [if_pos (by rfl)]
      obtain ⟨vs, hlen, hvs, hS, hn⟩ := hJ.next (by kernel_rfl) 2 (by kernel_rfl) hl (.inr (hp 4 (by kernel_rfl))) rfl
      match vs, hlen, hvs, hS, hn with
      | [a0, a1], _, hvs, hS, hn =>
        have e0 : V 2 = a0 := hvs 0 (by decide)
        have e1 : V 4 = a1 := hvs 1 (by decide)
        rw [e1] at t34
        go_simp
        exact hK _ _ (hn _ _ ⟨rfl, hS⟩)
    case o5_6 =>
      intro LX V aX wX K hl hp hcl hf hJ hK
      rw [if_pos (by rfl)]
      go_simp
      exact hK _ _ (hJ.val 6 _ (by kernel_rfl) rfl (fun _ h => h))
  intro V wZ hJ
  obtain ⟨vs, hlen, hvs, hS⟩ := hJ.all (by kernel_rfl)
  match vs, hlen, hvs, hS with
  | [a0, a1, a2], _, hvs, hS =>
    have e0 : V 2 = a0 := hvs 0 (by decide)
    have e1 : V 4 = a1 := hvs 1 (by decide)
    have e2 : V 5 = a2 := hvs 2 (by decide)
    obtain ⟨rfl, rfl, hI5, hT5⟩ := hS
    have HI5 := Lib.hid hI5
    have HT5 := Lib.hid ((Two.of HB0.out).trans hT5)
    have hv7 := hJ.vals 6 _ rfl (by kernel_rfl)
    simp only [puts, Act.put, List.setIfInBounds_toArray, List.set_cons_zero, List.set_cons_succ]
    rw [e2, hv7]
    clear hJ hvs e0 e1 e2 hI5 hT5
    go_wp2_with fail
    go_ret2
    exact ⟨rfl, HI5.out, HT5.out⟩
end Go.Proofs.YtjiiikeniocmfaaGreat
