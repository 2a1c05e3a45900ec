/- cross.Ends -/
import Derived.Test.YtgijaaklhdcgeaaQOnG
set_option linter.unusedSimpArgs false
set_option linter.unusedVariables false
namespace Go.Proofs.Ytgijaaklhdcgeaa
open Go.RowKit Go.Geo
theorem pts2 (w : World) (a b : Pt) : IsPts (w.alloc (.cells #[.int .i64 a.x, .int .i64 a.y, .int .i64 b.x, .int .i64 b.y] 27)) (some ⟨w.heap.size, 0, none⟩) 2 2 [a, b] := by
  refine ⟨rfl, Nat.le_refl _, by unfold maxLen; omega, fun _ => ⟨_, _, rfl, fun i hi => ?_⟩, fun h => by cases h⟩
  have h := alloc_new w (.cells #[.int .i64 a.x, .int .i64 a.y, .int .i64 b.x, .int .i64 b.y] 27)
  match i, hi with
  | 0, _ => exact ⟨cell_of_row _ _ _ _ _ _ h, cell_of_row _ _ _ _ _ _ h⟩
  | 1, _ => exact ⟨cell_of_row _ _ _ _ _ _ h, cell_of_row _ _ _ _ _ _ h⟩
theorem pts2d (w : World) (a b : Pt) : IsPts (w.alloc (.cells #[.int .i64 a.x, .int .i64 a.y, .int .i64 b.x, .int .i64 b.y] 27)).drew (some ⟨w.heap.size, 0, none⟩) 2 2 [a, b] := pts2 w.drew a b
theorem pts2n (w : World) (g : Nat) (a b : Pt) (hg : w.heap.size = g) : IsPts (w.alloc (.cells #[.int .i64 a.x, .int .i64 a.y, .int .i64 b.x, .int .i64 b.y] 27)).drew (some ⟨g, 0, none⟩) 2 2 [a, b] := by rw [← hg]; exact pts2d w a b
theorem IsPts.ofDrew {w : World} {ao : Option Addr} {n cap : Nat} {P : List Pt} (h : IsPts w ao n cap P) : IsPts w.drew ao n cap P := h
/-- four points in boxes of their own. -/
def Box4 (B : Nat) (a b c d : Pt) (w : World) : Prop :=
  (w.cell? ⟨B, 0, none⟩ = some (.int .i64 a.x) ∧ w.cell? ⟨B, 1, none⟩ = some (.int .i64 a.y)) ∧ (w.cell? ⟨B + 1, 0, none⟩ = some (.int .i64 b.x) ∧ w.cell? ⟨B + 1, 1, none⟩ = some (.int .i64 b.y)) ∧
  (w.cell? ⟨B + 1 + 1, 0, none⟩ = some (.int .i64 c.x) ∧ w.cell? ⟨B + 1 + 1, 1, none⟩ = some (.int .i64 c.y)) ∧ (w.cell? ⟨B + 1 + 1 + 1, 0, none⟩ = some (.int .i64 d.x) ∧ w.cell? ⟨B + 1 + 1 + 1, 1, none⟩ = some (.int .i64 d.y))
theorem box4_new (w : World) (a b c d : Pt) : Box4 w.heap.size a b c d ((((w.alloc (.cells #[.int .i64 a.x, .int .i64 a.y] 27)).alloc (.cells #[.int .i64 b.x, .int .i64 b.y] 27)).alloc (.cells #[.int .i64 c.x, .int .i64 c.y] 27)).alloc (.cells #[.int .i64 d.x, .int .i64 d.y] 27)) := by
  have h3 : ((w.alloc (.cells #[.int .i64 a.x, .int .i64 a.y] 27)).alloc (.cells #[.int .i64 b.x, .int .i64 b.y] 27)).heap.size = w.heap.size + 1 + 1 := by simp
  have h4 : (((w.alloc (.cells #[.int .i64 a.x, .int .i64 a.y] 27)).alloc (.cells #[.int .i64 b.x, .int .i64 b.y] 27)).alloc (.cells #[.int .i64 c.x, .int .i64 c.y] 27)).heap.size = w.heap.size + 1 + 1 + 1 := by simp
  refine ⟨⟨?_, ?_⟩, ⟨?_, ?_⟩, ⟨?_, ?_⟩, ?_, ?_⟩
  · exact ((((Grew.refl _).alloc _).alloc _).alloc _).cell (cell_of_row _ _ _ _ _ _ (alloc_new w _))
  · exact ((((Grew.refl _).alloc _).alloc _).alloc _).cell (cell_of_row _ _ _ _ _ _ (alloc_new w _))
  · exact (((Grew.refl _).alloc _).alloc _).cell (cell_of_row _ _ _ _ _ _ (alloc_new2 w _ _))
  · exact (((Grew.refl _).alloc _).alloc _).cell (cell_of_row _ _ _ _ _ _ (alloc_new2 w _ _))
  · rw [← h3]; exact ((Grew.refl _).alloc _).cell (cell_of_row _ _ _ _ _ _ (alloc_new _ _))
  · rw [← h3]; exact ((Grew.refl _).alloc _).cell (cell_of_row _ _ _ _ _ _ (alloc_new _ _))
  · rw [← h4]; exact cell_of_row _ _ _ _ _ _ (alloc_new _ _)
  · rw [← h4]; exact cell_of_row _ _ _ _ _ _ (alloc_new _ _)
theorem Box4.later {B base : Nat} {a b c d : Pt} {w w' : World} (h : Box4 B a b c d w) (hb : Below base w w') (hB : B + 4 ≤ base) : Box4 B a b c d w' := by
  obtain ⟨⟨h1, h2⟩, ⟨h3, h4⟩, ⟨h5, h6⟩, h7, h8⟩ := h
  exact ⟨⟨(hb.cell (p := ⟨B, 0, none⟩) (show B < base by omega)).trans h1, (hb.cell (p := ⟨B, 1, none⟩) (show B < base by omega)).trans h2⟩, ⟨(hb.cell (p := ⟨B + 1, 0, none⟩) (show B + 1 < base by omega)).trans h3, (hb.cell (p := ⟨B + 1, 1, none⟩) (show B + 1 < base by omega)).trans h4⟩, ⟨(hb.cell (p := ⟨B + 1 + 1, 0, none⟩) (show B + 1 + 1 < base by omega)).trans h5, (hb.cell (p := ⟨B + 1 + 1, 1, none⟩) (show B + 1 + 1 < base by omega)).trans h6⟩, (hb.cell (p := ⟨B + 1 + 1 + 1, 0, none⟩) (show B + 1 + 1 + 1 < base by omega)).trans h7, (hb.cell (p := ⟨B + 1 + 1 + 1, 1, none⟩) (show B + 1 + 1 + 1 < base by omega)).trans h8⟩
theorem ends_step {B base : Nat} {a b c d : Pt} {W w1 w2 : World} (hb : Below base w1 w2) (hB : B + 4 ≤ base)
    (h1 : w1.cell? ⟨B, 0, none⟩ = some (.int .i64 a.x)) (h2 : w1.cell? ⟨B, 1, none⟩ = some (.int .i64 a.y)) (h3 : w1.cell? ⟨B + 1, 0, none⟩ = some (.int .i64 b.x)) (h4 : w1.cell? ⟨B + 1, 1, none⟩ = some (.int .i64 b.y))
    (h5 : w1.cell? ⟨B + 1 + 1, 0, none⟩ = some (.int .i64 c.x)) (h6 : w1.cell? ⟨B + 1 + 1, 1, none⟩ = some (.int .i64 c.y)) (h7 : w1.cell? ⟨B + 1 + 1 + 1, 0, none⟩ = some (.int .i64 d.x)) (h8 : w1.cell? ⟨B + 1 + 1 + 1, 1, none⟩ = some (.int .i64 d.y)) (h9 : Below base W w1) :
    w2.cell? ⟨B, 0, none⟩ = some (.int .i64 a.x) ∧ w2.cell? ⟨B, 1, none⟩ = some (.int .i64 a.y) ∧ w2.cell? ⟨B + 1, 0, none⟩ = some (.int .i64 b.x) ∧ w2.cell? ⟨B + 1, 1, none⟩ = some (.int .i64 b.y) ∧ w2.cell? ⟨B + 1 + 1, 0, none⟩ = some (.int .i64 c.x) ∧ w2.cell? ⟨B + 1 + 1, 1, none⟩ = some (.int .i64 c.y) ∧ w2.cell? ⟨B + 1 + 1 + 1, 0, none⟩ = some (.int .i64 d.x) ∧ w2.cell? ⟨B + 1 + 1 + 1, 1, none⟩ = some (.int .i64 d.y) ∧ Below base W w2 := by
  obtain ⟨⟨k1, k2⟩, ⟨k3, k4⟩, ⟨k5, k6⟩, k7, k8⟩ := Box4.later (a := a) (b := b) (c := c) (d := d) ⟨⟨h1, h2⟩, ⟨h3, h4⟩, ⟨h5, h6⟩, h7, h8⟩ hb hB
  exact ⟨k1, k2, k3, k4, k5, k6, k7, k8, h9.trans hb⟩
theorem ends_alloc {B : Nat} {a b c d : Pt} {W w1 : World} {o : Obj} (hz : B + 4 ≤ W.heap.size)
    (h1 : w1.cell? ⟨B, 0, none⟩ = some (.int .i64 a.x)) (h2 : w1.cell? ⟨B, 1, none⟩ = some (.int .i64 a.y)) (h3 : w1.cell? ⟨B + 1, 0, none⟩ = some (.int .i64 b.x)) (h4 : w1.cell? ⟨B + 1, 1, none⟩ = some (.int .i64 b.y))
    (h5 : w1.cell? ⟨B + 1 + 1, 0, none⟩ = some (.int .i64 c.x)) (h6 : w1.cell? ⟨B + 1 + 1, 1, none⟩ = some (.int .i64 c.y)) (h7 : w1.cell? ⟨B + 1 + 1 + 1, 0, none⟩ = some (.int .i64 d.x)) (h8 : w1.cell? ⟨B + 1 + 1 + 1, 1, none⟩ = some (.int .i64 d.y)) (h9 : Below (B + 4) W w1) :
    (w1.alloc o).cell? ⟨B, 0, none⟩ = some (.int .i64 a.x) ∧ (w1.alloc o).cell? ⟨B, 1, none⟩ = some (.int .i64 a.y) ∧ (w1.alloc o).cell? ⟨B + 1, 0, none⟩ = some (.int .i64 b.x) ∧ (w1.alloc o).cell? ⟨B + 1, 1, none⟩ = some (.int .i64 b.y) ∧ (w1.alloc o).cell? ⟨B + 1 + 1, 0, none⟩ = some (.int .i64 c.x) ∧ (w1.alloc o).cell? ⟨B + 1 + 1, 1, none⟩ = some (.int .i64 c.y) ∧ (w1.alloc o).cell? ⟨B + 1 + 1 + 1, 0, none⟩ = some (.int .i64 d.x) ∧ (w1.alloc o).cell? ⟨B + 1 + 1 + 1, 1, none⟩ = some (.int .i64 d.y) ∧ Below (B + 4) W (w1.alloc o) :=
  ends_step ((Below.refl _ _).alloc (Nat.le_trans hz h9.size) _) (Nat.le_refl _) h1 h2 h3 h4 h5 h6 h7 h8 h9
theorem ends_alloc_drew {B : Nat} {a b c d : Pt} {W w1 : World} {o : Obj} (hz : B + 4 ≤ W.heap.size)
    (h1 : w1.drew.cell? ⟨B, 0, none⟩ = some (.int .i64 a.x)) (h2 : w1.drew.cell? ⟨B, 1, none⟩ = some (.int .i64 a.y)) (h3 : w1.drew.cell? ⟨B + 1, 0, none⟩ = some (.int .i64 b.x)) (h4 : w1.drew.cell? ⟨B + 1, 1, none⟩ = some (.int .i64 b.y))
    (h5 : w1.drew.cell? ⟨B + 1 + 1, 0, none⟩ = some (.int .i64 c.x)) (h6 : w1.drew.cell? ⟨B + 1 + 1, 1, none⟩ = some (.int .i64 c.y)) (h7 : w1.drew.cell? ⟨B + 1 + 1 + 1, 0, none⟩ = some (.int .i64 d.x)) (h8 : w1.drew.cell? ⟨B + 1 + 1 + 1, 1, none⟩ = some (.int .i64 d.y)) (h9 : Below (B + 4) W w1.drew) :
    (w1.alloc o).drew.cell? ⟨B, 0, none⟩ = some (.int .i64 a.x) ∧ (w1.alloc o).drew.cell? ⟨B, 1, none⟩ = some (.int .i64 a.y) ∧ (w1.alloc o).drew.cell? ⟨B + 1, 0, none⟩ = some (.int .i64 b.x) ∧ (w1.alloc o).drew.cell? ⟨B + 1, 1, none⟩ = some (.int .i64 b.y) ∧ (w1.alloc o).drew.cell? ⟨B + 1 + 1, 0, none⟩ = some (.int .i64 c.x) ∧ (w1.alloc o).drew.cell? ⟨B + 1 + 1, 1, none⟩ = some (.int .i64 c.y) ∧ (w1.alloc o).drew.cell? ⟨B + 1 + 1 + 1, 0, none⟩ = some (.int .i64 d.x) ∧ (w1.alloc o).drew.cell? ⟨B + 1 + 1 + 1, 1, none⟩ = some (.int .i64 d.y) ∧ Below (B + 4) W (w1.alloc o).drew :=
  ends_alloc (w1 := w1.drew) (o := o) hz h1 h2 h3 h4 h5 h6 h7 h8 h9
theorem gatherP_len : ∀ (out l : List Pt), (gatherP out l).length ≤ out.length + l.length
  | out, [] => by simp [gatherP]
  | out, p :: l => by
    rw [gatherP]
    by_cases hp : p ∈ out
    · rw [if_pos hp]
      have := gatherP_len out l
      simp; omega
    · rw [if_neg hp]
      have := gatherP_len (out ++ [p]) l
      simp at this ⊢; omega
theorem gather1 (v : Value) (ao : Option Addr) (n cap : Nat) (S : List Pt) (w : World) (B : Nat) (h : IsPts w ao n cap S) (hl : S.length ≤ 2) (hB : B + 4 ≤ w.heap.size) :
    Calls Try.prog 105 #[.slice none 0 0, .slice ao n cap] w fun e w' => ∃ ai m ci, e = .returned (.slice ai m ci) ∧ OwnP w' (B + 4) (.slice ai m ci) (gatherP [] S) ∧ Below w.heap.size w w' ∧ Below (B + 4) w w' :=
  (gather_any w.heap.size _ [] ao n cap S w h (by rw [← h.1]; omega) (by simp) (OwnP.nil _ _) (Nat.le_refl _) (fun b off e => by simp [Value.ownBlock])).mono fun e w' h => by
    obtain ⟨v, rfl, ho, hb⟩ := h
    obtain ⟨ai, ci, rfl, _⟩ := ho.pts
    exact ⟨ai, _, ci, rfl, ho.base hB, hb, hb.mono hB⟩
theorem on2_any (base : Nat) (a b c d : Pt) (g : Nat) (w : World) (h : IsPts w (some ⟨g, 0, none⟩) 2 2 [c, d]) (hb : base ≤ w.heap.size) :
    Calls Try.prog 106 #[ptV a, ptV b, .slice (some ⟨g, 0, none⟩) 2 2] w fun e w' => ∃ ao m cap, e = .returned (.slice ao m cap) ∧ IsPts w' ao m cap ([c, d].filter fun p => onP p a b) ∧ (∀ b off, ao = some ⟨b, off, none⟩ → w.heap.size ≤ b) ∧ Below w.heap.size w w' ∧ Below base w w' :=
  (on_any a b _ _ _ _ w h (by omega)).mono fun e w' h => by
    obtain ⟨v, rfl, ho, hbl⟩ := h
    obtain ⟨ao, cap, rfl, hp⟩ := ho.pts
    exact ⟨ao, _, cap, rfl, hp, (fun b off e => by cases e; exact (ho.lt b rfl).1), hbl, hbl.mono hb⟩
/-- a slice of so many. -/
def LenR (m : Nat) (w : World) (e : Ending) (w' : World) : Prop := ∃ ao cap, e = .returned (.slice ao m cap) ∧ Below w.heap.size w w'
set_option maxRecDepth 100000 in
set_option maxHeartbeats 4000000 in
theorem Ends_any (a b c d : Pt) (w : World) :
    Calls Try.prog 87 #[ptV a, ptV b, ptV c, ptV d] w fun e w' => LenR (endsP a b c d).length w e w' := by
  obtain ⟨B, hB⟩ : ∃ B, B = w.heap.size := ⟨_, rfl⟩
  have H4 := box4_new w a b c d
  rw [← hB] at H4
  obtain ⟨W4, hW4⟩ : ∃ W, W = (((w.alloc (.cells #[.int .i64 a.x, .int .i64 a.y] 27)).alloc (.cells #[.int .i64 b.x, .int .i64 b.y] 27)).alloc (.cells #[.int .i64 c.x, .int .i64 c.y] 27)).alloc (.cells #[.int .i64 d.x, .int .i64 d.y] 27) := ⟨_, rfl⟩
  rw [← hW4] at H4
  have hsz : W4.heap.size = B + 4 := by rw [hW4, hB]; simp
  have HB0 : Hid (Grew w W4) := Lib.hid (by rw [hW4]; exact ((((Grew.refl _).alloc _).alloc _).alloc _).alloc _)
  have HH4 := Lib.hid H4
  have HSZ := Lib.hid hsz
  have HBE := Lib.hid hB
  have HM1 := Lib.hid (may_any a b)
  have HM2 := Lib.hid (may_any c d)
  have HN1 : Hid (∀ g w, IsPts w (some ⟨g, 0, none⟩) 2 2 [a, b] → B + 4 ≤ w.heap.size → Calls Try.prog 106 #[ptV c, ptV d, .slice (some ⟨g, 0, none⟩) 2 2] w fun e w' => ∃ ao m cap, e = .returned (.slice ao m cap) ∧ IsPts w' ao m cap ([a, b].filter fun p => onP p c d) ∧ (∀ b off, ao = some ⟨b, off, none⟩ → w.heap.size ≤ b) ∧ Below w.heap.size w w' ∧ Below (B + 4) w w') := Lib.hid (fun g w h hb => on2_any (B + 4) c d a b g w h hb)
  have HN2 : Hid (∀ g w, IsPts w (some ⟨g, 0, none⟩) 2 2 [c, d] → B + 4 ≤ w.heap.size → Calls Try.prog 106 #[ptV a, ptV b, .slice (some ⟨g, 0, none⟩) 2 2] w fun e w' => ∃ ao m cap, e = .returned (.slice ao m cap) ∧ IsPts w' ao m cap ([c, d].filter fun p => onP p a b) ∧ (∀ b off, ao = some ⟨b, off, none⟩ → w.heap.size ≤ b) ∧ Below w.heap.size w w' ∧ Below (B + 4) w w') := Lib.hid (fun g w h hb => on2_any (B + 4) a b c d g w h hb)
  obtain ⟨S1, hS1⟩ : ∃ S, S = [a, b].filter fun p => onP p c d := ⟨_, rfl⟩
  obtain ⟨S2, hS2⟩ : ∃ S, S = [c, d].filter fun p => onP p a b := ⟨_, rfl⟩
  rw [← hS1] at HN1
  rw [← hS2] at HN2
  have he : endsP a b c d = if mayP a b && mayP c d then gatherP (gatherP [] S1) S2 else [] := by rw [hS1, hS2]; rfl
  have hl1 : S1.length ≤ 2 := by rw [hS1]; exact List.length_filter_le _ _
  have hl2 : S2.length ≤ 2 := by rw [hS2]; exact List.length_filter_le _ _
  rw [he]
  clear he hS1 hS2
  have HL1 := Lib.hid hl1
  have HL2 := Lib.hid hl2
  clear hl1 hl2
  obtain ⟨p, hp⟩ : ∃ p, p = mayP a b := ⟨_, rfl⟩
  obtain ⟨q, hq⟩ : ∃ q, q = mayP c d := ⟨_, rfl⟩
  rw [← hp] at HM1
  rw [← hq] at HM2
  rw [← hp, ← hq]
  clear hp hq
  unfold ptV at *
  cases p with
  | false =>
    go_enter Try.func87, Try.ntmps87
    go_wp2_with fail
    refine (HM1.out _).mono ?_
    rintro e w1 ⟨rfl, hg1⟩
    go_wp2_with fail
    go_ret
    exact ⟨_, _, rfl, (((((Grew.refl _).alloc _).alloc _).alloc _).alloc _ |>.trans hg1).1⟩
  | true =>
    cases q with
    | false =>
      go_enter Try.func87, Try.ntmps87
      go_wp2_with fail
      rw [← hW4, ← hB]
      refine (HM1.out _).mono ?_
      rintro e w1 ⟨rfl, hg1⟩
      obtain ⟨⟨k1, k2⟩, ⟨k3, k4⟩, ⟨k5, k6⟩, k7, k8⟩ := HH4.out.later hg1.1 (by rw [HSZ.out]; exact Nat.le_refl _)
      have HG1 := Lib.hid (HB0.out.trans hg1)
      clear hg1 H4 hW4 hB hsz
      go_wp2_with fail
      refine (HM2.out _).mono ?_
      rintro e w2 ⟨rfl, hg2⟩
      have HG2 := Lib.hid (HG1.out.trans hg2)
      clear hg2
      go_wp2_with fail
      go_ret
      exact ⟨_, _, rfl, HG2.out.1⟩
    | true =>
      go_enter Try.func87, Try.ntmps87
      go_wp2_with fail
      rw [← hW4, ← hB]
      refine (HM1.out _).mono ?_
      rintro e w1 ⟨rfl, hg1⟩
      obtain ⟨⟨k1, k2⟩, ⟨k3, k4⟩, ⟨k5, k6⟩, k7, k8⟩ := HH4.out.later hg1.1 (by rw [HSZ.out]; exact Nat.le_refl _)
      have HG1 := Lib.hid (And.intro (HB0.out.trans hg1) (show B + 4 ≤ w1.heap.size by have := hg1.size; omega))
      clear hg1 H4 hW4 hB hsz
      go_wp2_with fail
      refine (HM2.out _).mono ?_
      rintro e w2 ⟨rfl, hg2⟩
      have HG2 := Lib.hid (And.intro (HG1.out.1.trans hg2) (Nat.le_trans HG1.out.2 hg2.size))
      have HK : Hid (Box4 B a b c d w2) := Lib.hid ((show Box4 B a b c d w1 from ⟨⟨k1, k2⟩, ⟨k3, k4⟩, ⟨k5, k6⟩, k7, k8⟩).later hg2.1 HG1.out.2)
      clear hg2 k1 k2 k3 k4 k5 k6 k7 k8
      obtain ⟨⟨k1, k2⟩, ⟨k3, k4⟩, ⟨k5, k6⟩, k7, k8⟩ := HK.out
      go_wp2_with fail
      have H1 : Hid (B + 4 ≤ w2.heap.size) := Lib.hid HG2.out.2
      go_region_held3 (fun w' => w'.cell? ⟨B, 0, none⟩ = some (.int .i64 a.x) ∧ w'.cell? ⟨B, 1, none⟩ = some (.int .i64 a.y) ∧ w'.cell? ⟨B + 1, 0, none⟩ = some (.int .i64 b.x) ∧ w'.cell? ⟨B + 1, 1, none⟩ = some (.int .i64 b.y) ∧ w'.cell? ⟨B + 1 + 1, 0, none⟩ = some (.int .i64 c.x) ∧ w'.cell? ⟨B + 1 + 1, 1, none⟩ = some (.int .i64 c.y) ∧ w'.cell? ⟨B + 1 + 1 + 1, 0, none⟩ = some (.int .i64 d.x) ∧ w'.cell? ⟨B + 1 + 1 + 1, 1, none⟩ = some (.int .i64 d.y) ∧ Below (B + 4) w2 w')
        (first
          | (exact ⟨k1, k2, k3, k4, k5, k6, k7, k8, (Below.refl _ _).drew⟩)
          | (exact ends_alloc_drew H1.out k1 k2 k3 k4 k5 k6 k7 k8 (Below.refl _ _).drew)
          | (go_split_ands; refine ends_alloc_drew H1.out ?_ ?_ ?_ ?_ ?_ ?_ ?_ ?_ ?_; all_goals assumption)
          | (go_split_ands; refine ends_step hnew (Nat.le_refl _) ?_ ?_ ?_ ?_ ?_ ?_ ?_ ?_ ?_; all_goals assumption)
          | (go_split_ands; refine ends_alloc H1.out ?_ ?_ ?_ ?_ ?_ ?_ ?_ ?_ ?_; all_goals assumption))
        (first
          | (go_at_call_of 106 (Value.agg #[Value.int IntKind.i64 c.x, Value.int IntKind.i64 c.y]); go_split_ands
             refine (HN1.out _ _ (by first | exact pts2n _ _ a b rfl | exact pts2n _ _ a b (by simp) | exact (pts2n _ _ a b rfl).later (((Below.refl _ _).alloc (Nat.le_refl _) _).drew) (Nat.le_refl _) | exact (pts2 _ a b).later (((Below.refl _ _).alloc (Nat.le_refl _) _).drew) (Nat.le_refl _)) (by first | exact Nat.le_trans H1.out (Below.size (by assumption)) | (have hh := H1.out; simp; omega))).mono ?_
             rintro e wA ⟨aoA, mA, cA, rfl, hpA, hqA, hbA, hnew⟩)
          | (go_at_call_of 105 (Value.slice none 0 0); go_split_ands
             refine (gather1 (.slice none 0 0) aoA mA cA S1 _ B (by first | exact hpA | exact hpA.later ((Below.refl _ _).alloc (Nat.le_refl _) _) (Nat.le_refl _)) HL1.out (by first | exact Nat.le_trans H1.out (Below.size (by assumption)) | (have hh := H1.out; simp; omega))).mono ?_
             rintro e wB ⟨aoB, mB, cB, rfl, hoB, hbB, hnew⟩)
          | (go_at_call_of 106 (Value.agg #[Value.int IntKind.i64 a.x, Value.int IntKind.i64 a.y]); go_split_ands
             refine (HN2.out _ _ (by first | exact pts2 _ c d | exact (pts2 _ c d).later hbB (Nat.le_refl _) | exact ((pts2n _ _ c d (by simp)).later hbA (Nat.le_refl _)).later hbB (Nat.le_refl _) | exact (((pts2 w2 c d).later (((Below.refl _ _).alloc (Nat.le_refl _) _).drew) (Nat.le_refl _)).later hbA (Nat.le_refl _)).later hbB (Nat.le_refl _)) (by first | exact Nat.le_trans H1.out (Below.size (by assumption)) | (have hh := H1.out; simp; omega))).mono ?_
             rintro e wC ⟨aoC, mC, cC, rfl, hpC, hqC, hbC, hnew⟩)
          | (go_at_call 105; go_split_ands
             refine (gather_any (B + 4) (.slice aoB mB cB) (gatherP [] S1) aoC mC cC S2 _ hpC (by have h1 := hpC.1; have h2 := HL2.out; omega) (by have h1 := gatherP_len [] S1; have h2 := HL1.out; simp at h1; omega) (by first | exact hoB.later hbC | exact (hoB.later ((Below.refl _ _).alloc (Nat.le_refl _) _)).later hbC) (by first | exact Nat.le_trans H1.out (Below.size (by assumption)) | (have hh := H1.out; simp; omega)) (fun b off e h => by have h1 := hqC b off e; have h2 := (hoB.lt b h).2; (try simp at h1); omega)).mono ?_
             rintro e wD ⟨vD, rfl, hoD, hnew⟩
             obtain ⟨aD, cD, rfl, _⟩ := hoD.pts))
      all_goals go_wp2_with fail
      all_goals (go_ret; refine ⟨_, _, rfl, HG2.out.1.1.trans (Below.mono (B := B + 4) (by first | assumption | (go_split_ands; assumption)) (by have := HBE.out; omega))⟩)
end Go.Proofs.Ytgijaaklhdcgeaa
