/- index.slabs (printed by mkslabs14b.py) -/
import Derived.Test.YtjiiikeniocmfaaGreatMIDo
import Derived.Test.YtjiiikeniocmfaaGreatMSlabW
set_option linter.unusedSimpArgs false
set_option linter.unusedVariables false
namespace Go.Proofs.YtjiiikeniocmfaaGreat
open Go.RowKit Go.Geo
attribute [local go_sem] Oper.semAt_some
def DoneIt (X : Nat → Prop) (W : World) (B g og sg i : Nat) (G : List Reg) (w : World) : Prop := ∃ w1, Below W.heap.size W w1 ∧ IdxOn X w B g og sg G ∧ Two og sg w1 w ∧ ∃ gs, w.cell? ⟨sg, i, none⟩ = some (.pointer (some ⟨gs, 0, none⟩)) ∧ g < gs ∧ SlabOwn w gs (heightsP (G.getD i [])) (slabsR (G.getD i []))
def StD (X : Nat → Prop) (W : World) (B g og sg i : Nat) (G : List Reg) : List Value → World → Prop
  | [], w => Below W.heap.size W w
  | [_], w => DoneIt X W B g og sg i G w
  | _, _ => False
theorem StD.below {X : Nat → Prop} {W : World} {B g og sg i : Nat} {G : List Reg} {vs : List Value} {w : World} (hl : vs.length ≤ 0) (h : StD X W B g og sg i G vs w) : Below W.heap.size W w := by
  match vs, h with
  | [], h => exact h
  | _ :: _, _ => simp at hl
set_option maxRecDepth 100000 in
set_option maxHeartbeats 4000000 in
theorem slabs_any (X : Nat → Prop) (B g og sg i : Nat) (G : List Reg) (w : World) (h : IdxOn X w B g og sg G) (hX : ∀ k, X k → k < w.heap.size) (hi : i < G.length) :
    Calls Tryz.prog 31 #[.pointer (some ⟨g, 0, none⟩), .int .i64 (i : Int)] w fun e w' => ∃ gs, e = .returned (.pointer (some ⟨gs, 0, none⟩)) ∧ IdxOn X w' B g og sg G ∧ Two og sg w w' ∧ g < gs ∧ SlabOwn w' gs (heightsP (G.getD i [])) (slabsR (G.getD i [])) := by
  obtain ⟨bx, hbx⟩ : ∃ b, b = w.heap.size := ⟨_, rfl⟩
  obtain ⟨bi, hbi⟩ : ∃ b, b = w.heap.size + 1 := ⟨_, rfl⟩
  obtain ⟨W, hW⟩ : ∃ W, W = (w.alloc (.cells #[.pointer (some ⟨g, 0, none⟩)] 32)).alloc (.cells #[.int .i64 (i : Int)] 3) := ⟨_, rfl⟩
  have hb0 : Below w.heap.size w W := by rw [hW]; exact ((Below.refl _ _).alloc (Nat.le_refl _) _).alloc (by simp) _
  have cx : W.cell? ⟨bx, 0, none⟩ = some (.pointer (some ⟨g, 0, none⟩)) := by
    rw [hW, hbx]
    exact cell_of_row _ _ _ _ _ _ ((Below.heap_alloc _ _ _ (by simp)).trans (alloc_new _ _))
  have ci : W.cell? ⟨bi, 0, none⟩ = some (.int .i64 (i : Int)) := by
    rw [hW, hbi]
    exact cell_of_row _ _ _ _ _ _ (alloc_new2 _ _ _)
  have hWs : W.heap.size = w.heap.size + 2 := by rw [hW]; simp
  have hI := h.later hb0
  have hlg := h.lt
  have hfew := h.few
  obtain ⟨n, hn⟩ : ∃ n, n = G.length := ⟨_, rfl⟩
  have HIX : Hid ((i : Int) < (n : Int) ∧ (0 : Int) ≤ (i : Int) ∧ i < n) := Lib.hid ⟨by omega, by omega, by omega⟩
  have HCE : Hid (∀ wX, Below W.heap.size W wX → wX.cell? ⟨bx, 0, none⟩ = some (.pointer (some ⟨g, 0, none⟩)) ∧ wX.cell? ⟨bi, 0, none⟩ = some (.int .i64 (i : Int)) ∧ wX.cell? ⟨g, 3, none⟩ = some (.slice (some ⟨og, 0, none⟩) n n)) := Lib.hid (fun wX hb => by
    obtain ⟨⟨lv, tg, w0, e1, _⟩, _⟩ := hI.later hb
    rw [← hn] at e1
    exact ⟨(hb.cell (p := ⟨bx, 0, none⟩) (by simp only; omega)).trans cx, (hb.cell (p := ⟨bi, 0, none⟩) (by simp only; omega)).trans ci, cell_of_row _ _ _ _ _ _ e1⟩)
  have HDO : Hid (∀ wX, Below W.heap.size W wX → Calls Tryz.prog 50 #[.pointer (some ⟨og, i * 3, none⟩), .func (.func 51) #[] #[.pointer (some ⟨bx, 0, none⟩), .pointer (some ⟨bi, 0, none⟩)]] wX fun e w' => e = .returned (.tuple #[]) ∧ DoneIt X W B g og sg i G w') := Lib.hid (fun wX hb => by
    refine (do_any bx bi B g og sg i X G wX (hI.later hb) (fun k hk => by have := hX k hk; have := hb.size; omega) hi ((hb.cell (p := ⟨bx, 0, none⟩) (by simp only; omega)).trans cx) ((hb.cell (p := ⟨bi, 0, none⟩) (by simp only; omega)).trans ci) (by omega) (by omega)).mono ?_
    rintro e w' ⟨rfl, h1, h2, h3⟩
    exact ⟨rfl, wX, hb, h1, h2, h3⟩)
  have HFIN : Hid (∀ w', DoneIt X W B g og sg i G w' → ∃ gs, IdxOn X w' B g og sg G ∧ Two og sg w w' ∧ g < gs ∧ SlabOwn w' gs (heightsP (G.getD i [])) (slabsR (G.getD i [])) ∧ ∀ wX, Below w'.heap.size w' wX → wX.cell? ⟨bx, 0, none⟩ = some (.pointer (some ⟨g, 0, none⟩)) ∧ wX.cell? ⟨bi, 0, none⟩ = some (.int .i64 (i : Int)) ∧ wX.cell? ⟨g, 4, none⟩ = some (.slice (some ⟨sg, 0, none⟩) n n) ∧ wX.cell? ⟨sg, i, none⟩ = some (.pointer (some ⟨gs, 0, none⟩))) := Lib.hid (fun w' hd => by
    obtain ⟨w1, h1, h2, h3, gs, h4, h5, h6⟩ := hd
    have ht : Two og sg W w' := (Two.of h1).trans h3
    refine ⟨gs, h2, (Two.of hb0).trans ht, h5, h6, fun wX hb => ?_⟩
    obtain ⟨⟨lv, tg, w0, e1, _⟩, _, ⟨ss, s1, _⟩, _⟩ := h2.later hb
    rw [← hn] at e1
    have hbl : ∀ k, w.heap.size ≤ k → k < W.heap.size → wX.heap[k]? = W.heap[k]? := fun k k1 k2 => (hb.block k (Nat.lt_of_lt_of_le k2 ht.size)).trans (ht.block k k2 (by omega) (by omega))
    refine ⟨(cell_of_same (hbl bx (by omega) (by omega))).trans cx, (cell_of_same (hbl bi (by omega) (by omega))).trans ci, cell_of_row _ _ _ _ _ _ e1, ?_⟩
    have hs : sg < w'.heap.size := Nat.lt_of_lt_of_le hlg.2.1 (Nat.le_trans hb0.size ht.size)
    exact (hb.cell (p := ⟨sg, i, none⟩) hs).trans h4)
  clear h hX hi cx ci hI hlg hfew hWs hb0 hn
  go_enter Tryz.func31, Tryz.ntmps31
  go_wp2_with fail
  rw [← hW, ← hbx]
  rw [show bx + 1 = bi by omega]
  clear hW hbx hbi
  refine wp_region_J (s := [(5, 0), (6, 1), (7, 2), (8, 3), (9, 4), (10, 5), (11, 6), (12, 7)]) (by kernel_rfl) (ChainJ (fun iX => match iX with | 0 => some (.pointer (some ⟨g, 0, none⟩)) | 1 => some (.pointer (some ⟨g, 0, none⟩)) | 2 => some (.pointer (some ⟨g, 3, none⟩)) | 3 => some (.slice (some ⟨og, 0, none⟩) n n) | 4 => some (.int .i64 (i : Int)) | 5 => some (.pointer (some ⟨og, i * 3, none⟩)) | 6 => some (.func (.func 51) #[] #[.pointer (some ⟨bx, 0, none⟩), .pointer (some ⟨bi, 0, none⟩)]) | _ => none) [7] (StD X W B g og sg i G)) (by kernel_rfl) (by kernel_rfl) (by kernel_rfl) (by kernel_rfl) (fun _ => undef) ?start1 ?step1 ?done1
  case start1 => exact ChainJ.start ((Below.refl _ _).drew)
  case step1 =>
    refine ⟨?o1_0, ?o1_1, ?o1_2, ?o1_3, ?o1_4, ?o1_5, ?o1_6, ?o1_7, trivial⟩
    case o1_0 =>
      intro LX V aX wX K hl hp hcl hf hJ hK
      have t2 : aX.tmps[2]? = some (.pointer (some ⟨bx, 0, none⟩)) := hf.old (by kernel_rfl) rfl
      obtain ⟨vs, hlen, hS⟩ := hJ.upto 0 (by decide) (hcl.no 7 (by kernel_rfl) (hcl.no 5 (by kernel_rfl) (hcl.no 3 (by kernel_rfl) (hcl.no 2 (by kernel_rfl) (hcl.no 1 (by kernel_rfl) (hl))))))
      have hB := StD.below hlen hS
      obtain ⟨cx, ci, cg3⟩ := HCE.out wX hB
      rw [if_pos (by rfl)]
      go_simp
      exact hK _ _ (hJ.val 0 _ (by kernel_rfl) rfl (fun _ h => h))
    case o1_1 =>
      intro LX V aX wX K hl hp hcl hf hJ hK
      have t5 := hf.in (i := 0) (d := 5) (by kernel_rfl) (hp 0 (by kernel_rfl)) (hJ.vals 0 _ rfl (hp 0 (by kernel_rfl)))
      rw [if_pos (by rfl)]
      go_simp
      exact hK _ _ (hJ.val 1 _ (by kernel_rfl) rfl (fun _ h => h))
    case o1_2 =>
      intro LX V aX wX K hl hp hcl hf hJ hK
      have t6 := hf.in (i := 1) (d := 6) (by kernel_rfl) (hp 1 (by kernel_rfl)) (hJ.vals 1 _ rfl (hp 1 (by kernel_rfl)))
      rw [if_pos (by rfl)]
      go_simp
      exact hK _ _ (hJ.val 2 _ (by kernel_rfl) rfl (fun _ h => h))
    case o1_3 =>
      intro LX V aX wX K hl hp hcl hf hJ hK
      have t7 := hf.in (i := 2) (d := 7) (by kernel_rfl) (hp 2 (by kernel_rfl)) (hJ.vals 2 _ rfl (hp 2 (by kernel_rfl)))
      obtain ⟨vs, hlen, hS⟩ := hJ.upto 0 (by decide) (hcl.no 7 (by kernel_rfl) (hcl.no 5 (by kernel_rfl) (hl)))
      have hB := StD.below hlen hS
      obtain ⟨cx, ci, cg3⟩ := HCE.out wX hB
      rw [if_pos (by rfl)]
      go_simp
      exact hK _ _ (hJ.val 3 _ (by kernel_rfl) rfl (fun _ h => h))
    case o1_4 =>
      intro LX V aX wX K hl hp hcl hf hJ hK
      have t3 : aX.tmps[3]? = some (.pointer (some ⟨bi, 0, none⟩)) := hf.old (by kernel_rfl) rfl
      obtain ⟨vs, hlen, hS⟩ := hJ.upto 0 (by decide) (hcl.no 7 (by kernel_rfl) (hcl.no 5 (by kernel_rfl) (hl)))
      have hB := StD.below hlen hS
      obtain ⟨cx, ci, cg3⟩ := HCE.out wX hB
      rw [if_pos (by rfl)]
      go_simp
      exact hK _ _ (hJ.val 4 _ (by kernel_rfl) rfl (fun _ h => h))
    case o1_5 =>
      intro LX V aX wX K hl hp hcl hf hJ hK
      have t8 := hf.in (i := 3) (d := 8) (by kernel_rfl) (hp 3 (by kernel_rfl)) (hJ.vals 3 _ rfl (hp 3 (by kernel_rfl)))
      have t9 := hf.in (i := 4) (d := 9) (by kernel_rfl) (hp 4 (by kernel_rfl)) (hJ.vals 4 _ rfl (hp 4 (by kernel_rfl)))
      obtain ⟨i1, i2, i3⟩ := HIX.out
      rw [if_pos (by rfl)]
      go_simp
      exact hK _ _ (hJ.val 5 _ (by kernel_rfl) rfl (fun _ h => h))
    case o1_6 =>
      intro LX V aX wX K hl hp hcl hf hJ hK
      have t2 : aX.tmps[2]? = some (.pointer (some ⟨bx, 0, none⟩)) := hf.old (by kernel_rfl) rfl
      have t3 : aX.tmps[3]? = some (.pointer (some ⟨bi, 0, none⟩)) := hf.old (by kernel_rfl) rfl
      rw [if_pos (by rfl)]
      go_simp
      exact hK _ _ (hJ.val 6 _ (by kernel_rfl) rfl (fun _ h => h))
    case o1_7 =>
      intro LX V aX wX K hl hp hcl hf hJ hK
      have t10 := hf.in (i := 5) (d := 10) (by kernel_rfl) (hp 5 (by kernel_rfl)) (hJ.vals 5 _ rfl (hp 5 (by kernel_rfl)))
      have t11 := hf.in (i := 6) (d := 11) (by kernel_rfl) (hp 6 (by kernel_rfl)) (hJ.vals 6 _ rfl (hp 6 (by kernel_rfl)))
      rw [if_pos (by rfl)]
      obtain ⟨vs, hlen, hvs, hS, hn⟩ := hJ.next (by kernel_rfl) 0 (by kernel_rfl) hl (.inl rfl) rfl
      match vs, hlen, hvs, hS, hn with
      | [], _, hvs, hS, hn =>
        have HS := Lib.hid hS
        clear hS
        go_simp
        refine (HDO.out wX HS.out).mono ?_
        rintro e wA ⟨rfl, hA⟩
        exact hK _ _ (hn _ _ hA)
  intro V wZ hJ
  obtain ⟨vs, hlen, hvs, hS⟩ := hJ.all (by kernel_rfl)
  match vs, hlen, hvs, hS with
  | [a0], _, hvs, hS =>
    have e0 : V 7 = a0 := hvs 0 (by decide)
    have HA := Lib.hid hS
    simp only [puts, Act.put, List.setIfInBounds_toArray, List.set_cons_zero, List.set_cons_succ]
    clear hJ hvs hS e0
    obtain ⟨gs, f1, f2, f3, f4, f5⟩ := HFIN.out _ HA.out
    have HF := Lib.hid (And.intro f1 (And.intro f2 (And.intro f3 f4)))
    have HC2 := Lib.hid f5
    clear f1 f2 f3 f4 f5
    go_wp2_with fail
    have HOK : ∀ f ∈ ([] : List Fct), FctOk f := by
      intro f hf; cases hf
    refine wp_region_J (s := [(13, 0), (14, 1), (15, 2), (16, 3), (17, 4), (18, 5), (19, 6), (4, 7)]) (by kernel_rfl) (GrowJ wZ (fun iX => match iX with | 0 => some (.pointer (some ⟨g, 0, none⟩)) | 1 => some (.pointer (some ⟨g, 0, none⟩)) | 2 => some (.pointer (some ⟨g, 4, none⟩)) | 3 => some (.slice (some ⟨sg, 0, none⟩) n n) | 4 => some (.int .i64 (i : Int)) | 5 => some (.pointer (some ⟨sg, i, none⟩)) | 6 => some (.pointer (some ⟨gs, 0, none⟩)) | 7 => some (.pointer (some ⟨gs, 0, none⟩)) | _ => none) []) (by kernel_rfl) (by kernel_rfl) (by kernel_rfl) (by kernel_rfl) (fun _ => undef) ?start2 ?step2 ?done2
    case start2 => exact GrowJ.start ((Below.refl _ _).drew)
    case step2 =>
      refine ⟨?o2_0, ?o2_1, ?o2_2, ?o2_3, ?o2_4, ?o2_5, ?o2_6, ?o2_7, trivial⟩
      case o2_0 =>
        intro LX V aX wX K hl hp hcl hf hJ hK
        have t2 : aX.tmps[2]? = some (.pointer (some ⟨bx, 0, none⟩)) := hf.old (by kernel_rfl) rfl
        obtain ⟨cx, ci, cg4, cs⟩ := HC2.out wX hJ.below
        rw [if_pos (by rfl)]
        go_simp
        exact hK _ _ (hJ.val HOK 0 _ (by kernel_rfl) rfl (Below.refl _ _))
      case o2_1 =>
        intro LX V aX wX K hl hp hcl hf hJ hK
        have t13 := hf.in (i := 0) (d := 13) (by kernel_rfl) (hp 0 (by kernel_rfl)) (hJ.vals 0 _ rfl (hp 0 (by kernel_rfl)))
        rw [if_pos (by rfl)]
        go_simp
        exact hK _ _ (hJ.val HOK 1 _ (by kernel_rfl) rfl (Below.refl _ _))
      case o2_2 =>
        intro LX V aX wX K hl hp hcl hf hJ hK
        have t14 := hf.in (i := 1) (d := 14) (by kernel_rfl) (hp 1 (by kernel_rfl)) (hJ.vals 1 _ rfl (hp 1 (by kernel_rfl)))
        rw [if_pos (by rfl)]
        go_simp
        exact hK _ _ (hJ.val HOK 2 _ (by kernel_rfl) rfl (Below.refl _ _))
      case o2_3 =>
        intro LX V aX wX K hl hp hcl hf hJ hK
        have t15 := hf.in (i := 2) (d := 15) (by kernel_rfl) (hp 2 (by kernel_rfl)) (hJ.vals 2 _ rfl (hp 2 (by kernel_rfl)))
        obtain ⟨cx, ci, cg4, cs⟩ := HC2.out wX hJ.below
        rw [if_pos (by rfl)]
        go_simp
        exact hK _ _ (hJ.val HOK 3 _ (by kernel_rfl) rfl (Below.refl _ _))
      case o2_4 =>
        intro LX V aX wX K hl hp hcl hf hJ hK
        have t3 : aX.tmps[3]? = some (.pointer (some ⟨bi, 0, none⟩)) := hf.old (by kernel_rfl) rfl
        obtain ⟨cx, ci, cg4, cs⟩ := HC2.out wX hJ.below
        rw [if_pos (by rfl)]
        go_simp
        exact hK _ _ (hJ.val HOK 4 _ (by kernel_rfl) rfl (Below.refl _ _))
      case o2_5 =>
        intro LX V aX wX K hl hp hcl hf hJ hK
        have t16 := hf.in (i := 3) (d := 16) (by kernel_rfl) (hp 3 (by kernel_rfl)) (hJ.vals 3 _ rfl (hp 3 (by kernel_rfl)))
        have t17 := hf.in (i := 4) (d := 17) (by kernel_rfl) (hp 4 (by kernel_rfl)) (hJ.vals 4 _ rfl (hp 4 (by kernel_rfl)))
        obtain ⟨i1, i2, i3⟩ := HIX.out
        rw [if_pos (by rfl)]
        go_simp
        exact hK _ _ (hJ.val HOK 5 _ (by kernel_rfl) rfl (Below.refl _ _))
      case o2_6 =>
        intro LX V aX wX K hl hp hcl hf hJ hK
        have t18 := hf.in (i := 5) (d := 18) (by kernel_rfl) (hp 5 (by kernel_rfl)) (hJ.vals 5 _ rfl (hp 5 (by kernel_rfl)))
        obtain ⟨cx, ci, cg4, cs⟩ := HC2.out wX hJ.below
        rw [if_pos (by rfl)]
        go_simp
        exact hK _ _ (hJ.val HOK 6 _ (by kernel_rfl) rfl (Below.refl _ _))
      case o2_7 =>
        intro LX V aX wX K hl hp hcl hf hJ hK
        have t19 := hf.in (i := 6) (d := 19) (by kernel_rfl) (hp 6 (by kernel_rfl)) (hJ.vals 6 _ rfl (hp 6 (by kernel_rfl)))
        rw [if_pos (by rfl)]
        go_simp
        exact hK _ _ (hJ.val HOK 7 _ (by kernel_rfl) rfl (Below.refl _ _))
    intro V wY hJ
    have hv := hJ.vals 7 _ rfl (by kernel_rfl)
    have HBZ := Lib.hid hJ.below
    simp only [puts, Act.put, List.setIfInBounds_toArray, List.set_cons_zero, List.set_cons_succ]
    rw [hv]
    clear hJ HOK hv
    go_wp2_with fail
    go_ret
    obtain ⟨f1, f2, f3, f4⟩ := HF.out
    exact ⟨gs, rfl, f1.later HBZ.out, f2.trans (Two.of HBZ.out), f3, f4.move fun k _ hk => HBZ.out.block k hk⟩
end Go.Proofs.YtjiiikeniocmfaaGreat

/- an index: Len, Near (printed by mknear14.py) -/
set_option linter.unusedSimpArgs false
set_option linter.unusedVariables false
namespace Go.Proofs.YtjiiikeniocmfaaGreat
open Go.RowKit Go.Geo
attribute [local go_sem] Oper.semAt_some
def StNr (W : World) (q : Bx → Bool) (L : List Bx) : List Value → World → Prop
  | [], w => Below W.heap.size W w
  | [a], w => Below W.heap.size W w ∧ OwnI w W.heap.size a (askB q L)
  | [a, b], w => b = a ∧ Below W.heap.size W w ∧ OwnI w W.heap.size a (askB q L)
  | _, _ => False
theorem StNr.below {W : World} {q : Bx → Bool} {L : List Bx} {vs : List Value} {w : World} (hl : vs.length ≤ 0) (h : StNr W q L vs w) : Below W.heap.size W w := by
  match vs, h with
  | [], h => exact h
  | _ :: _, _ => simp at hl
def nearQ (p : Pt) (x : Bx) : Bool := boxIn p x.1 x.2
set_option maxRecDepth 100000 in
set_option maxHeartbeats 4000000 in
theorem Near_any (X : Nat → Prop) (B g og sg : Nat) (G : List Reg) (p : Pt) (w : World) (h : IdxOn X w B g og sg G) :
    Calls Tryz.prog 17 #[.pointer (some ⟨g, 0, none⟩), ptV p] w (AskR (nearQ p) (boxesR G) w) := by
  obtain ⟨bp, hbp⟩ : ∃ b, b = w.heap.size := ⟨_, rfl⟩
  obtain ⟨W, hW⟩ : ∃ W, W = w.alloc (.cells #[.int .i64 p.x, .int .i64 p.y] 24) := ⟨_, rfl⟩
  have hb0 : Below w.heap.size w W := by rw [hW]; exact (Below.refl _ _).alloc (Nat.le_refl _) _
  have hp : W.heap[bp]? = some (.cells #[.int .i64 p.x, .int .i64 p.y] 24 (0, 0)) := by rw [hW, hbp]; exact alloc_new _ _
  have hI := h.later hb0
  obtain ⟨q, hq⟩ : ∃ q, q = nearQ p := ⟨_, rfl⟩
  obtain ⟨L, hL⟩ : ∃ L, L = boxesR G := ⟨_, rfl⟩
  have hfew := h.few
  have hLl : L.length = G.length := by rw [hL]; unfold boxesR; simp
  have HAT0 : ∃ tg : Nat, (∀ wX, Below W.heap.size W wX → wX.cell? ⟨g, 0, none⟩ = some (.bool true) ∧ wX.cell? ⟨g, 2, none⟩ = some (.pointer (some ⟨tg, 0, none⟩)) ∧ wX.cell? ⟨bp, 0, none⟩ = some (.int .i64 p.x) ∧ wX.cell? ⟨bp, 1, none⟩ = some (.int .i64 p.y)) ∧ ∀ wX, Below W.heap.size W wX → Calls Tryz.prog 33 #[.pointer (some ⟨tg, 0, none⟩), ptV p] wX fun e w' => ∃ u, e = .returned u ∧ Below W.heap.size W w' ∧ OwnI w' W.heap.size u (askB q L) := by
    obtain ⟨⟨lv, tg, w0, e1, e2, e3, e4⟩, _⟩ := hI
    refine ⟨tg, fun wX hb => ?_, fun wX hb => ?_⟩
    · have k1 := (hb.block g (heap_lt' e1)).trans e1
      have k2 := (hb.block bp (heap_lt' hp)).trans hp
      exact ⟨cell_of_row _ _ _ _ _ _ k1, cell_of_row _ _ _ _ _ _ k1, cell_of_row _ _ _ _ _ _ k2, cell_of_row _ _ _ _ _ _ k2⟩
    · have ht : TreeIs wX tg (boxesR G) := by
        obtain ⟨lv', ov, nv, O, N, t⟩ := (e3.since e4).move fun k _ hk => hb.block k hk
        exact ⟨⟨_, lv', ov, nv, O, N, t⟩, by rw [← hL]; omega⟩
      refine (At_any tg (boxesR G) p wX ht).mono ?_
      rintro e w' ⟨v, rfl, h1, h2⟩
      rw [hq, hL]
      exact ⟨v, rfl, hb.trans (h2.mono hb.size), h1.base hb.size⟩
  obtain ⟨tg, hce, hat⟩ := HAT0
  have HCE : Hid (∀ wX, Below W.heap.size W wX → wX.cell? ⟨g, 2, none⟩ = some (.pointer (some ⟨tg, 0, none⟩)) ∧ wX.cell? ⟨bp, 0, none⟩ = some (.int .i64 p.x) ∧ wX.cell? ⟨bp, 1, none⟩ = some (.int .i64 p.y)) := Lib.hid fun wX hb => (hce wX hb).2
  have c0 := (hce W (Below.refl _ _)).1
  have HAT := Lib.hid hat
  have HB0 := Lib.hid hb0
  rw [← hq, ← hL]
  unfold ptV at HAT ⊢
  rw [hW] at c0
  clear h hb0 hp hI hq hL hfew hLl hce hat
  go_enter Tryz.func17, Tryz.ntmps17
  go_wp2_with fail
  rw [← hW, ← hbp]
  clear hW hbp c0
  refine wp_region_J (s := [(14, 0), (15, 1), (16, 2), (17, 3), (18, 4), (19, 5), (4, 6)]) (by kernel_rfl) (ChainJ (fun iX => match iX with | 0 => some (.pointer (some ⟨g, 0, none⟩)) | 1 => some (.pointer (some ⟨g, 0, none⟩)) | 2 => some (.pointer (some ⟨g, 2, none⟩)) | 3 => some (.pointer (some ⟨tg, 0, none⟩)) | 4 => some (.agg #[.int .i64 p.x, .int .i64 p.y]) | _ => none) [5, 6] (StNr W q L)) (by kernel_rfl) (by kernel_rfl) (by kernel_rfl) (by kernel_rfl) (fun _ => undef) ?start3 ?step3 ?done3
  case start3 => exact ChainJ.start ((Below.refl _ _).drew)
  case step3 =>
    refine ⟨?o3_0, ?o3_1, ?o3_2, ?o3_3, ?o3_4, ?o3_5, ?o3_6, trivial⟩
    case o3_0 =>
      intro LX V aX wX K hl hp hcl hf hJ hK
      have t0 : aX.tmps[0]? = some (.pointer (some ⟨g, 0, none⟩)) := hf.old (by kernel_rfl) rfl
      rw [if_pos (by rfl)]
      go_simp
      exact hK _ _ (hJ.val 0 _ (by kernel_rfl) rfl (fun _ h => h))
    case o3_1 =>
      intro LX V aX wX K hl hp hcl hf hJ hK
      have t14 := hf.in (i := 0) (d := 14) (by kernel_rfl) (hp 0 (by kernel_rfl)) (hJ.vals 0 _ rfl (hp 0 (by kernel_rfl)))
      rw [if_pos (by rfl)]
      go_simp
      exact hK _ _ (hJ.val 1 _ (by kernel_rfl) rfl (fun _ h => h))
    case o3_2 =>
      intro LX V aX wX K hl hp hcl hf hJ hK
      have t15 := hf.in (i := 1) (d := 15) (by kernel_rfl) (hp 1 (by kernel_rfl)) (hJ.vals 1 _ rfl (hp 1 (by kernel_rfl)))
      rw [if_pos (by rfl)]
      go_simp
      exact hK _ _ (hJ.val 2 _ (by kernel_rfl) rfl (fun _ h => h))
    case o3_3 =>
      intro LX V aX wX K hl hp hcl hf hJ hK
      have t16 := hf.in (i := 2) (d := 16) (by kernel_rfl) (hp 2 (by kernel_rfl)) (hJ.vals 2 _ rfl (hp 2 (by kernel_rfl)))
      obtain ⟨vs, hlen, hS⟩ := hJ.upto 0 (by decide) (hcl.no 5 (by kernel_rfl) hl)
      have hB := StNr.below hlen hS
      obtain ⟨c1, c2, c3⟩ := HCE.out wX hB
      rw [if_pos (by rfl)]
      go_simp
      exact hK _ _ (hJ.val 3 _ (by kernel_rfl) rfl (fun _ h => h))
    case o3_4 =>
      intro LX V aX wX K hl hp hcl hf hJ hK
      have t3 : aX.tmps[3]? = some (.pointer (some ⟨bp, 0, none⟩)) := hf.old (by kernel_rfl) rfl
      obtain ⟨vs, hlen, hS⟩ := hJ.upto 0 (by decide) (hcl.no 5 (by kernel_rfl) hl)
      have hB := StNr.below hlen hS
      obtain ⟨c1, c2, c3⟩ := HCE.out wX hB
      rw [if_pos (by rfl)]
      go_simp
      exact hK _ _ (hJ.val 4 _ (by kernel_rfl) rfl (fun _ h => h))
    case o3_5 =>
      intro LX V aX wX K hl hp hcl hf hJ hK
      have t17 := hf.in (i := 3) (d := 17) (by kernel_rfl) (hp 3 (by kernel_rfl)) (hJ.vals 3 _ rfl (hp 3 (by kernel_rfl)))
      have t18 := hf.in (i := 4) (d := 18) (by kernel_rfl) (hp 4 (by kernel_rfl)) (hJ.vals 4 _ rfl (hp 4 (by kernel_rfl)))
      rw [if_pos (by rfl)]
      obtain ⟨vs, hlen, hvs, hS, hn⟩ := hJ.next (by kernel_rfl) 0 (by kernel_rfl) hl (.inl rfl) rfl
      match vs, hlen, hvs, hS, hn with
      | [], _, hvs, hS, hn =>
        have HS := Lib.hid hS
        clear hS
        go_simp
        refine (HAT.out wX HS.out).mono ?_
        rintro e wA ⟨u, rfl, hA⟩
        exact hK _ _ (hn _ _ hA)
    case o3_6 =>
      intro LX V aX wX K hl hp hcl hf hJ hK
      have t19 := hf.in (i := 5) (d := 19) (by kernel_rfl) (hp 5 (by kernel_rfl)) rfl
      rw [if_pos (by rfl)]
      obtain ⟨vs, hlen, hvs, hS, hn⟩ := hJ.next (by kernel_rfl) 1 (by kernel_rfl) hl (.inr (hp 5 (by kernel_rfl))) rfl
      match vs, hlen, hvs, hS, hn with
      | [a0], _, hvs, hS, hn =>
        have e0 : V 5 = a0 := hvs 0 (by decide)
        rw [e0] at t19
        go_simp
        exact hK _ _ (hn _ _ ⟨rfl, hS⟩)
  intro V wZ hJ
  obtain ⟨vs, hlen, hvs, hS⟩ := hJ.all (by kernel_rfl)
  match vs, hlen, hvs, hS with
  | [a0, a1], _, hvs, hS =>
    have e0 : V 5 = a0 := hvs 0 (by decide)
    have e1 : V 6 = a1 := hvs 1 (by decide)
    obtain ⟨rfl, hS⟩ := hS
    have HA := Lib.hid hS
    simp only [puts, Act.put, List.setIfInBounds_toArray, List.set_cons_zero, List.set_cons_succ]
    rw [e1]
    clear hJ hvs hS e0 e1
    go_wp2_with fail
    go_ret
    exact ⟨_, rfl, HA.out.2.base HB0.out.size, HB0.out.trans (HA.out.1.mono HB0.out.size)⟩
end Go.Proofs.YtjiiikeniocmfaaGreat

/- index.At (printed by mkat14.py) -/
set_option linter.unusedSimpArgs false
set_option linter.unusedVariables false
namespace Go.Proofs.YtjiiikeniocmfaaGreat
open Go.RowKit Go.Geo
attribute [local go_sem] Oper.semAt_some
theorem wpList_append_intsF {w : World} {ops : Array Oper} {rest : List Oper} {o : Oper} {a : Act} {Q : Exit → Act → World → Prop} (hgd : o.guard = none) (s x : Operand)
    (ho : o.op = .call { callee := .builtin .append, args := #[s, x], argTypes := #[22, 22] })
    (base : Nat) (v : Value) (L : List Int) (hs : a.eval s = v) (hown : OwnI w base v L)
    (ao : Option Addr) (m c : Nat) (L2 : List Int) (hx : a.eval x = .slice ao m c) (hsrc : IsInts w ao m c L2) (hnm : L.length + m ≤ 1000000000) (hbase : base ≤ w.heap.size)
    (h : ∀ v' w', OwnI w' base v' (L ++ L2) → w.grownBy w' v.ownBlock → (∀ g, v'.ownBlock = some g → w.heap.size ≤ g ∨ v.ownBlock = some g) → wpList Tryz.prog ops Q rest (a.put o.dst v') w') : wpList Tryz.prog ops Q (o :: rest) a w := by
  refine wpList_plain hgd fun K hK => ?_
  exact opwp_append_intsF s x ho base v L hs hown ao m c L2 hx hsrc hnm hbase fun v' w' h1 h2 h3 => hK _ _ (h v' w' h1 h2 h3)
def regI (G : List Reg) (x : Int) : Reg := G.getD x.toNat []
def askG (q : Reg → Bool) (G : List Reg) : List Int := (allI G.length).filter (fun x => q (regI G x))
theorem boxesR_len (G : List Reg) : (boxesR G).length = G.length := by simp [boxesR]
theorem boxesR_get {G : List Reg} {i : Nat} (h : i < G.length) : (boxesR G).getD i bx0 = (boundsP (G.getD i []).flatten).getD (p0, p0) := by
  unfold boxesR
  rw [List.getD_eq_getElem?_getD, List.getElem?_map, List.getElem?_eq_getElem h, List.getD_eq_getElem?_getD, List.getElem?_eq_getElem h]
  rfl
theorem bxI_nat (L : List Bx) (i : Nat) : bxI L (i : Int) = L.getD i bx0 := by simp [bxI]
/-- who has a point is near it. -/
theorem in_near {G : List Reg} {p : Pt} {i : Nat} (h : i < G.length) (hc : (regionCheckP (G.getD i [])).1 = 0) (hi : inR p (G.getD i []) = true) : nearQ p ((boxesR G).getD i bx0) = true := by
  obtain ⟨lo, hi2, hb⟩ := region_box hc
  rw [boxesR_get h, hb]
  exact inR_box hb hi
theorem near_filter {G : List Reg} {p : Pt} (hc : ∀ i, i < G.length → (regionCheckP (G.getD i [])).1 = 0) : (askB (nearQ p) (boxesR G)).filter (fun x => inR p (regI G x)) = askG (inR p) G := by
  rw [askB_filter, boxesR_len]
  unfold askG
  rw [List.filter_filter]
  refine List.filter_congr fun x hx => ?_
  obtain ⟨h0, h1⟩ := allI_mem.1 hx
  obtain ⟨i, rfl⟩ : ∃ i : Nat, x = (i : Int) := ⟨x.toNat, by omega⟩
  have hi : i < G.length := by omega
  rw [bxI_nat]
  cases hq : inR p (regI G (i : Int)) with
  | false => simp
  | true =>
    have h9 := in_near hi (hc i hi) (show inR p (G.getD i []) = true by simpa [regI] using hq)
    rw [h9]; rfl
def StAt (X : Nat → Prop) (p : Pt) (B g og sg i : Nat) (G : List Reg) (W : World) : List Value → World → Prop
  | [], w => Below W.heap.size W w
  | [a], w => ∃ gs, a = .pointer (some ⟨gs, 0, none⟩) ∧ IdxOn X w B g og sg G ∧ Two og sg W w ∧ SlabOwn w gs (heightsP (G.getD i [])) (slabsR (G.getD i []))
  | [a, b], w => b = .bool (inR p (G.getD i [])) ∧ IdxOn X w B g og sg G ∧ Two og sg W w
  | _, _ => False
theorem StAt.two {X : Nat → Prop} {p : Pt} {B g og sg i : Nat} {G : List Reg} {W : World} {vs : List Value} {w : World} (hl : vs.length ≤ 1) (h : StAt X p B g og sg i G W vs w) : Two og sg W w := by
  match vs, h with
  | [], h => exact Two.of h
  | [_], h => obtain ⟨_, _, _, h, _⟩ := h; exact h
  | _ :: _ :: _, _ => simp at hl
theorem take_filter {q : Int → Bool} {N : List Int} {k : Nat} (hk : k < N.length) : (N.take (k + 1)).filter q = (N.take k).filter q ++ (if q (N.getD k 0) then [N.getD k 0] else []) := by
  rw [List.take_add_one, List.filter_append, List.getElem?_eq_getElem hk, List.getD_eq_getElem?_getD, List.getElem?_eq_getElem hk]
  simp only [Option.toList, Option.getD_some, List.filter_cons, List.filter_nil]
theorem SIn_reg (gs : Nat) (R : Reg) (p : Pt) (w : World) (hc : (regionCheckP R).1 = 0) (h : SlabOwn w gs (heightsP R) (slabsR R)) :
    Calls Tryz.prog 32 #[.pointer (some ⟨gs, 0, none⟩), ptV p] w fun e w' => e = .returned (.bool (inR p R)) ∧ Below w.heap.size w w' := by
  have := SIn_any gs (heightsP R) (slabsR R) p w (slabs_is hc h) (heights_sorted R)
  rw [inR_slab] at this
  exact this
set_option maxRecDepth 100000 in
set_option maxHeartbeats 8000000 in
theorem IAt_any (X : Nat → Prop) (B g og sg : Nat) (G : List Reg) (p : Pt) (w : World) (h : IdxOn X w B g og sg G) (hX : ∀ k, X k → k < w.heap.size) :
    Calls Tryz.prog 12 #[.pointer (some ⟨g, 0, none⟩), ptV p] w fun e w' => ∃ v, e = .returned v ∧ OwnI w' w.heap.size v (askG (inR p) G) ∧ IdxOn (fun k => X k ∨ v.ownBlock = some k) w' B g og sg G ∧ Two og sg w w' := by
  obtain ⟨bp, hbp⟩ : ∃ b, b = w.heap.size := ⟨_, rfl⟩
  obtain ⟨W, hW⟩ : ∃ W, W = w.alloc (.cells #[.int .i64 p.x, .int .i64 p.y] 24) := ⟨_, rfl⟩
  have hb0 : Below w.heap.size w W := by rw [hW]; exact (Below.refl _ _).alloc (Nat.le_refl _) _
  have hp : W.heap[bp]? = some (.cells #[.int .i64 p.x, .int .i64 p.y] 24 (0, 0)) := by rw [hW, hbp]; exact alloc_new _ _
  have hlt := h.lt
  have HOK := Lib.hid h.ok
  have hI := h.later hb0
  have HNE := Lib.hid (Near_any X B g og sg G p W hI)
  have HI := Lib.hid hI
  have HB0 := Lib.hid hb0
  have HP0 := Lib.hid hp
  have HLT := Lib.hid (And.intro hlt hX)
  have HF := Lib.hid (near_filter (p := p) h.ok)
  have HFEW := Lib.hid h.few
  obtain ⟨N, hN⟩ : ∃ N, N = askB (nearQ p) (boxesR G) := ⟨_, rfl⟩
  have HNM : Hid (∀ x ∈ N, ∃ i : Nat, x = (i : Int) ∧ i < G.length) := Lib.hid (fun x hx => by
    rw [hN] at hx
    obtain ⟨⟨h0, h1⟩, _⟩ := askB_mem.1 hx
    rw [boxesR_len] at h1
    exact ⟨x.toNat, by omega, by omega⟩)
  have HNL : Hid (N.length ≤ 64) := Lib.hid (by
    rw [hN, askB_filter]
    refine Nat.le_trans (List.length_filter_le _ _) ?_
    rw [allI_len, boxesR_len]
    exact HFEW.out)
  unfold AskR at HNE
  rw [← hN] at HF HNE
  have HBPI : Hid (bp = w.heap.size) := Lib.hid hbp
  unfold ptV at HNE ⊢
  clear h hX hb0 hp hlt hI hN
  go_enter Tryz.func12, Tryz.ntmps12
  go_wp2_with fail
  rw [← hW, ← hbp]
  clear hW hbp
  refine HNE.out.mono ?_
  rintro e w1 ⟨nv, rfl, hon, hb1⟩
  obtain ⟨na, nc, hnv, hnl⟩ := hon.ints
  obtain ⟨m, hm⟩ : ∃ m, m = N.length := ⟨_, rfl⟩
  rw [← hm] at hnv hnl HNL
  have HM := Lib.hid hm
  subst hnv
  have HB1 := Lib.hid (HB0.out.trans (hb1.mono HB0.out.size))
  have HP1 := Lib.hid ((hb1.block bp (heap_lt' HP0.out)).trans HP0.out)
  have HI1 := Lib.hid (HI.out.later hb1)
  have HON := Lib.hid hon
  have HNI := Lib.hid hnl
  have hm64 := HNL.out
  have HW0 := Lib.hid HB0.out.size
  clear hon hnl hb1 hm HNL
  go_wp2_with fail
  go_loopw [5, 12] (fun ov kv wr => ∃ k : Nat, k ≤ m ∧ kv = .int .i64 k ∧ Hid (OwnI wr w1.heap.size ov ((N.take k).filter (fun x => inR p (regI G x)))) ∧ Hid (IdxOn (fun k => X k ∨ ov.ownBlock = some k) wr B g og sg G) ∧ Hid (Two og sg w1 wr)) (fun _ kv _ => m - (intOf kv).toNat)
  case atStart => exact ⟨0, by omega, rfl, Lib.hid (OwnI.nil _ _), Lib.hid (HI1.out.step (Nat.le_refl _) (fun _ _ _ => rfl) (fun k hk => by rcases hk with hk | hk; exact .inl hk; simp [Value.ownBlock] at hk)), Lib.hid (Two.refl _ _ _)⟩
  case round =>
    obtain ⟨k, hk, rfl, HOW, HIW, HTW⟩ := hrel
    by_cases hlt : k < m
    · have hk5 : (k : Int) < (m : Int) := by omega
      have hk0 : (0 : Int) ≤ (k : Int) := by omega
      have hwk : IntKind.i64.wrap ((k : Int) + 1) = (k : Int) + 1 := IntWalk.i64_in _ (by omega)
      have hnk := hlt
      rw [HM.out] at hnk
      obtain ⟨i, hi, hin⟩ := HNM.out (N.getD k 0) (by rw [List.getD_eq_getElem?_getD, List.getElem?_eq_getElem hnk, Option.getD_some]; exact List.getElem_mem _)
      have hcell : ∃ nb no, na = some ⟨nb, no, none⟩ ∧ wr.cell? ⟨nb, no + k, none⟩ = some (.int .i64 (i : Int)) := by
        have h1 : OwnI wr W.heap.size (.slice na m nc) N := ownsRow_move HON.out fun q hq => HTW.out.block q (HON.out.lt q hq).2 (by have := HLT.out.1; have := (HON.out.lt q hq).1; have := HW0.out; omega) (by have := HLT.out.1; have := (HON.out.lt q hq).1; have := HW0.out; omega)
        obtain ⟨a2, c2, e2, i2⟩ := h1.ints
        injection e2 with e3 e4 e5
        subst e3 e5
        obtain ⟨nb, no, e6, h7⟩ := i2.2.2.2.1 (by omega)
        exact ⟨nb, no, e6, by rw [h7 k hnk, hi]⟩
      obtain ⟨nb, no, hna, c1⟩ := hcell
      subst hna
      obtain ⟨X2, hX2⟩ : ∃ X2, X2 = fun k => X k ∨ u5.ownBlock = some k := ⟨_, rfl⟩
      rw [← hX2] at HIW
      have hX2l : ∀ q, X2 q → q < wr.heap.size := fun q hq => by
        rw [hX2] at hq
        rcases hq with hq | hq
        · have := HLT.out.2 q hq; have := HTW.out.size; have := HB1.out.size; omega
        · exact (HOW.out.lt q hq).2
      have HX2 := Lib.hid hX2
      have HSL : Hid (∀ wX, Below wr.heap.size wr wX → Calls Tryz.prog 31 #[.pointer (some ⟨g, 0, none⟩), .int .i64 (i : Int)] wX fun e w' => ∃ u, e = .returned u ∧ StAt X2 p B g og sg i G wr [u] w') := Lib.hid (fun wX hb => by
        refine (slabs_any X2 B g og sg i G wX (HIW.out.later hb) (fun q hq => Nat.lt_of_lt_of_le (hX2l q hq) hb.size) hin).mono ?_
        rintro e w' ⟨gs, rfl, k1, k2, k3, k4⟩
        exact ⟨_, rfl, gs, rfl, k1, (Two.of hb).trans k2, k4⟩)
      have HIN : Hid (∀ gs wX, (IdxOn X2 wX B g og sg G ∧ Two og sg wr wX ∧ SlabOwn wX gs (heightsP (G.getD i [])) (slabsR (G.getD i []))) → Calls Tryz.prog 32 #[.pointer (some ⟨gs, 0, none⟩), .agg #[.int .i64 p.x, .int .i64 p.y]] wX fun e w' => e = .returned (.bool (inR p (G.getD i []))) ∧ IdxOn X2 w' B g og sg G ∧ Two og sg wr w') := Lib.hid (fun gs wX hh => by
        obtain ⟨k1, k2, k3⟩ := hh
        refine (SIn_reg gs (G.getD i []) p wX (HOK.out i hin) k3).mono ?_
        rintro e w' ⟨rfl, hb⟩
        exact ⟨rfl, k1.later hb, k2.trans (Two.of hb)⟩)
      have HBP : Hid (∀ wX, Two og sg wr wX → wX.cell? ⟨bp, 0, none⟩ = some (.int .i64 p.x) ∧ wX.cell? ⟨bp, 1, none⟩ = some (.int .i64 p.y)) := Lib.hid (fun wX ht => by
        have hbl : wX.heap[bp]? = _ := ((HTW.out.trans ht).block bp (heap_lt' HP1.out) (by have := HLT.out.1; have := HBPI.out; omega) (by have := HLT.out.1; have := HBPI.out; omega)).trans HP1.out
        exact ⟨cell_of_row _ _ _ _ _ _ hbl, cell_of_row _ _ _ _ _ _ hbl⟩)
      have HNK := Lib.hid (And.intro hnk hi)
      clear hnk hi hin hX2l hX2
      go_wp2_with fail
      refine wp_region_J (s := [(16, 0), (17, 1), (18, 2), (19, 3), (20, 4)]) (by kernel_rfl) (ChainJ (fun iX => match iX with | 0 => some (.pointer (some ⟨g, 0, none⟩)) | 1 => some (.int .i64 (i : Int)) | 3 => some (.agg #[.int .i64 p.x, .int .i64 p.y]) | _ => none) [2, 4] (StAt X2 p B g og sg i G wr)) (by kernel_rfl) (by kernel_rfl) (by kernel_rfl) (by kernel_rfl) (fun _ => undef) ?start5 ?step5 ?done5
      case start5 => exact ChainJ.start ((Below.refl _ _).drew)
      case step5 =>
        refine ⟨?o5_0, ?o5_1, ?o5_2, ?o5_3, ?o5_4, trivial⟩
        case o5_0 =>
          intro LX V aX wX K hl hp hcl hf hJ hK
          have t0 : aX.tmps[0]? = some (.pointer (some ⟨g, 0, none⟩)) := hf.old (by kernel_rfl) rfl
          rw [if_pos (by rfl)]
          go_simp
          exact hK _ _ (hJ.val 0 _ (by kernel_rfl) rfl (fun _ h => h))
        case o5_1 =>
          intro LX V aX wX K hl hp hcl hf hJ hK
          have t7 : aX.tmps[7]? = some (.int .i64 (i : Int)) := hf.old (by kernel_rfl) rfl
          rw [if_pos (by rfl)]
          go_simp
          exact hK _ _ (hJ.val 1 _ (by kernel_rfl) rfl (fun _ h => h))
        case o5_2 =>
          intro LX V aX wX K hl hp hcl hf hJ hK
          have t16 := hf.in (i := 0) (d := 16) (by kernel_rfl) (hp 0 (by kernel_rfl)) (hJ.vals 0 _ rfl (hp 0 (by kernel_rfl)))
          have t17 := hf.in (i := 1) (d := 17) (by kernel_rfl) (hp 1 (by kernel_rfl)) (hJ.vals 1 _ rfl (hp 1 (by kernel_rfl)))
          rw [if_pos (by rfl)]
          obtain ⟨vs, hlen, hvs, hS, hn⟩ := hJ.next (by kernel_rfl) 0 (by kernel_rfl) hl (.inl rfl) rfl
          match vs, hlen, hvs, hS, hn with
          | [], _, hvs, hS, hn =>
            have HS := Lib.hid hS
            clear hS
            go_simp
            refine (HSL.out wX HS.out).mono ?_
            rintro e wA ⟨u, rfl, hA⟩
            exact hK _ _ (hn _ _ hA)
        case o5_3 =>
          intro LX V aX wX K hl hp hcl hf hJ hK
          have t3 : aX.tmps[3]? = some (.pointer (some ⟨bp, 0, none⟩)) := hf.old (by kernel_rfl) rfl
          obtain ⟨vs, hlen, hS⟩ := hJ.upto 1 (by decide) (hcl.no 4 (by kernel_rfl) hl)
          have hB := StAt.two hlen hS
          obtain ⟨c2, c3⟩ := HBP.out wX hB
          rw [if_pos (by rfl)]
          go_simp
          exact hK _ _ (hJ.val 3 _ (by kernel_rfl) rfl (fun _ h => h))
        case o5_4 =>
          intro LX V aX wX K hl hp hcl hf hJ hK
          have t18 := hf.in (i := 2) (d := 18) (by kernel_rfl) (hp 2 (by kernel_rfl)) rfl
          have t19 := hf.in (i := 3) (d := 19) (by kernel_rfl) (hp 3 (by kernel_rfl)) (hJ.vals 3 _ rfl (hp 3 (by kernel_rfl)))
          rw [if_pos (by rfl)]
          obtain ⟨vs, hlen, hvs, hS, hn⟩ := hJ.next (by kernel_rfl) 1 (by kernel_rfl) hl (.inr (hp 2 (by kernel_rfl))) rfl
          match vs, hlen, hvs, hS, hn with
          | [a0], _, hvs, hS, hn =>
            have e0 : V 2 = a0 := hvs 0 (by decide)
            have HS := Lib.hid hS
            clear hS
            obtain ⟨gs, hgs, hh⟩ := HS.out
            have HH := Lib.hid hh
            rw [e0, hgs] at t18
            clear hgs hh
            go_simp
            refine (HIN.out gs wX HH.out).mono ?_
            rintro e wA ⟨rfl, hA⟩
            exact hK _ _ (hn _ _ ⟨rfl, hA⟩)
      intro V wZ hJ
      obtain ⟨vs, hlen, hvs, hS⟩ := hJ.all (by kernel_rfl)
      match vs, hlen, hvs, hS with
      | [a0, a1], _, hvs, hS =>
        have e0 : V 2 = a0 := hvs 0 (by decide)
        have e1 : V 4 = a1 := hvs 1 (by decide)
        obtain ⟨rfl, hI5, hT5⟩ := hS
        have HI5 := Lib.hid hI5
        have HTZ := Lib.hid hT5
        have HT5 := Lib.hid (HTW.out.trans hT5)
        simp only [puts, Act.put, List.setIfInBounds_toArray, List.set_cons_zero, List.set_cons_succ]
        rw [e1]
        clear hJ hvs e0 e1 hI5 hT5
        have hstep := take_filter (q := fun x => inR p (regI G x)) HNK.out.1
        rw [HNK.out.2] at hstep
        have hri : regI G (i : Int) = G.getD i [] := by simp [regI]
        rw [hri] at hstep
        have HOZ : Hid (OwnI wZ w1.heap.size u5 ((N.take k).filter (fun x => inR p (regI G x)))) := Lib.hid (ownsRow_move HOW.out fun q hq => by
          have := (HOW.out.lt q hq).1
          have := HLT.out.1
          have := HB1.out.size
          exact HTZ.out.block q (HOW.out.lt q hq).2 (by omega) (by omega))
        obtain ⟨r, hr⟩ : ∃ r, r = inR p (G.getD i []) := ⟨_, rfl⟩
        rw [← hr] at hstep ⊢
        cases r with
        | false =>
          have HST := Lib.hid hstep
          clear hstep hr hri
          go_wp2_with fail
          go_roundw
          case rel => exact ⟨k + 1, by omega, by go_num, Lib.hid (by rw [HST.out]; simpa using HOZ.out), Lib.hid (by rw [← HX2.out]; exact HI5.out), HT5⟩
          case measure => simp [intOf]; omega
        | true =>
          have HST := Lib.hid hstep
          have HKL : Hid (((N.take k).filter (fun x => inR p (regI G x))).length + 1 ≤ 1000000000) := Lib.hid (by
            have := List.length_filter_le (fun x => inR p (regI G x)) (N.take k)
            rw [List.length_take] at this
            omega)
          have HSZ := Lib.hid HT5.out.size
          clear hstep hr hri
          go_wp2_with (at_builtin; refine wpList_append_intsF rfl _ _ rfl w1.heap.size u5 ((N.take k).filter (fun x => inR p (regI G x))) rfl (HOZ.out.later ((Below.refl _ _).alloc (Nat.le_refl _) _)) _ _ _ [(i : Int)] rfl (one_ints wZ (i : Int)) HKL.out (by have := HSZ.out; simp; omega) ?_
                       intro v' w9 hov hgr hfr
                       have hown9 := hov
                       obtain ⟨av, cv, hv', _⟩ := hov.ints
                       have HN9 := Lib.hid (And.intro hown9 (And.intro hgr hfr))
                       clear hown9 hgr hfr hov)
          have hv2 : v' = .slice av (((N.take k).filter (fun x => inR p (regI G x))).length + 1) cv := by rw [hv', List.length_append]; rfl
          rw [← hv2]
          obtain ⟨o9, g9, f9⟩ := HN9.out
          have hal : Below wZ.heap.size wZ (wZ.alloc (Obj.cells #[Value.int IntKind.i64 (i : Int)] 3)) := (Below.refl _ _).alloc (Nat.le_refl _) _
          have hx2 := HX2.out
          refine ⟨⟨k + 1, by omega, by go_num, Lib.hid (by rw [HST.out]; exact o9), Lib.hid (HI5.out.step (Nat.le_trans hal.size g9.size) (fun q hq hn => (g9.block q (Nat.lt_of_lt_of_le hq hal.size) (fun e => hn (by rw [hx2]; exact .inr e.symm))).trans (hal.block q hq)) (fun q hq => ?_)), Lib.hid ((HT5.out.trans (Two.of hal)).grown g9 (fun q hq => (HOW.out.lt q hq).1))⟩, ?_⟩
          · rcases hq with hq | hq
            · exact .inl (by rw [hx2]; exact .inl hq)
            · rcases f9 q hq with h | h
              · exact .inr (Nat.le_trans hal.size h)
              · exact .inl (by rw [hx2]; exact .inr h)
          · simp [intOf]; omega
    · have hkm : k = m := by omega
      subst hkm
      go_wp2_with fail
      go_ret
      have h1 : N.take k = N := by rw [List.take_of_length_le (by rw [HM.out]; exact Nat.le_refl _)]
      have h2 := HOW.out
      rw [h1, HF.out] at h2
      exact ⟨_, rfl, h2.base HB1.out.size, HIW.out, (Two.of HB1.out).trans HTW.out⟩
end Go.Proofs.YtjiiikeniocmfaaGreat
