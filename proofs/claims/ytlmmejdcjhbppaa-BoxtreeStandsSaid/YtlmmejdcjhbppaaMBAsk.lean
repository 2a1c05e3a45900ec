/- boxtree: asks, At, Over of a tree that stands -/
import Derived.Test.YtlmmejdcjhbppaaMBWalk
import Derived.Test.YtlmmejdcjhbppaaMQBox
import Derived.Test.YtlmmejdcjhbppaaMSSort
import Derived.Shelf.Abstract
set_option linter.unusedSimpArgs false
set_option linter.unusedVariables false
namespace Go.Proofs.Ytlmmejdcjhbppaa
open Go.RowKit Go.Geo
attribute [local go_sem] Oper.semAt_some
/-- a tree that stands, in blocks of B and above. -/
def TreeOn (w : World) (B g : Nat) (L : List Bx) : Prop := ∃ lv ov nv O N, TMem B w g lv ov nv L O N ∧ N.length ≤ 5000 ∧ O.Perm (allI L.length) ∧ Laid L true (allI L.length) O ∧ ((L = [] ∧ N = []) ∨ TreeAt L N O 0 0 L.length)
theorem TreeOn.move {w w' : World} {B g : Nat} {L : List Bx} (h : TreeOn w B g L) (hk : ∀ k, B ≤ k → k < w.heap.size → w'.heap[k]? = w.heap[k]?) : TreeOn w' B g L := by
  obtain ⟨lv, ov, nv, O, N, hm, h2⟩ := h
  have hg := heap_lt2 hm.row
  exact ⟨lv, ov, nv, O, N, ⟨(hk g hm.own.low hg).trans hm.row, ⟨ownsRow_move hm.own.l fun k e => hk k (hm.own.l.lt k e).1 (hm.own.l.lt k e).2, ownsRow_move hm.own.o fun k e => hk k (hm.own.o.lt k e).1 (hm.own.o.lt k e).2, ownsRow_move hm.own.n fun k e => hk k (hm.own.n.lt k e).1 (hm.own.n.lt k e).2, hm.own.low⟩⟩, h2⟩
/-- a tree that stands. -/
structure TreeIs (w : World) (g : Nat) (L : List Bx) : Prop where
  ex : ∃ B lv ov nv O N, TMem B w g lv ov nv L O N ∧ N.length ≤ 5000 ∧ O.Perm (allI L.length) ∧ Laid L true (allI L.length) O ∧ ((L = [] ∧ N = []) ∨ TreeAt L N O 0 0 L.length)
  few : L.length ≤ 1000
theorem TreeIs.later {w w' : World} {g : Nat} {L : List Bx} (h : TreeIs w g L) (hb : Below w.heap.size w w') : TreeIs w' g L := by
  obtain ⟨⟨B, lv, ov, nv, O, N, h1, h2⟩, h3⟩ := h
  exact ⟨⟨B, lv, ov, nv, O, N, h1.later hb, h2⟩, h3⟩
def AskR (q : Bx → Bool) (L : List Bx) (w : World) (e : Ending) (w' : World) : Prop := ∃ v, e = .returned v ∧ OwnI w' w.heap.size v (askB q L) ∧ Below w.heap.size w w'
set_option maxRecDepth 100000 in
set_option maxHeartbeats 4000000 in
theorem walk_none (fid pb : Nat) (B g : Nat) (lv ov nv : Value) (L : List Bx) (O : List Int) (w : World) (hm : TMem B w g lv ov nv L O []) :
    Calls Try.prog 46 #[.pointer (some ⟨g, 0, none⟩), .int .i64 0, .func (.func fid) #[] #[.pointer (some ⟨pb, 0, none⟩)]] w fun e w' => e = .returned (.slice none 0 0) ∧ w = w' := by
  obtain ⟨na, nc, hnv, _⟩ := hm.own.n.is
  obtain ⟨_, _, _, c9⟩ := hm.row.cell
  rw [hnv] at c9
  have c10 : w.cell? ⟨g, 3, none⟩ = some (.slice na 0 nc) := c9
  clear c9 hnv hm
  go_enter Try.func46, Try.ntmps46
  go_wp2_with fail
  go_ret
  exact ⟨rfl, rfl⟩
set_option maxRecDepth 100000 in
set_option maxHeartbeats 4000000 in
theorem asks_any (fid pb : Nat) (q : Bx → Bool) (hq : MonoB q) (hent : ∀ args w, (callFunc fid args).run Try.prog w = .ok (.enter fid args) w) (g : Nat) (L : List Bx) (w : World) (h : TreeIs w g L) (hso : SoOk fid pb q w) :
    Calls Try.prog 30 #[.pointer (some ⟨g, 0, none⟩), .func (.func fid) #[] #[.pointer (some ⟨pb, 0, none⟩)]] w (AskR q L w) := by
  obtain ⟨⟨B, lv, ov, nv, O, N, hm, hN, hO, _, hc⟩, hL⟩ := h
  have hOl : O.length = L.length := by rw [hO.length_eq, allI_len]
  have hW : Calls Try.prog 46 #[.pointer (some ⟨g, 0, none⟩), .int .i64 0, .func (.func fid) #[] #[.pointer (some ⟨pb, 0, none⟩)]] w fun e w' => ∃ v, e = .returned v ∧ OwnI w' w.heap.size v (O.filter (fun x => q (bxI L x))) ∧ Below w.heap.size w w' := by
    rcases hc with ⟨rfl, rfl⟩ | ht
    · have : O = [] := List.eq_nil_of_length_eq_zero hOl
      subst this
      refine (walk_none fid pb B g lv ov nv [] [] w hm).mono ?_
      rintro e w' ⟨rfl, rfl⟩
      exact ⟨_, rfl, OwnI.nil _ _, Below.refl _ _⟩
    · have h1 := walk_any fid pb q hq hent B g lv ov nv L O N hN (by omega) ht (by omega) w hm hso
      refine h1.mono ?_
      rintro e w' ⟨v, rfl, ho, hb⟩
      have hs : seg O 0 L.length = O := by unfold seg; rw [List.drop_zero, Nat.sub_zero, List.take_of_length_le (by omega)]
      rw [hs] at ho
      exact ⟨v, rfl, ho, hb⟩
  have HW := Lib.hid hW
  have HO := Lib.hid hO
  have hfl : (O.filter (fun x => q (bxI L x))).length ≤ 1000 := Nat.le_trans (List.length_filter_le _ _) (by omega)
  have HFL := Lib.hid hfl
  clear hW hO hm hc hso hOl hfl
  go_enter Try.func30, Try.ntmps30
  go_wp2_with fail
  refine HW.out.mono ?_
  rintro e w1 ⟨v, rfl, ho, hb⟩
  have HS := Lib.hid (Sort_ints w.heap.size v _ w1 ho (by have := HFL.out; omega))
  have HB := Lib.hid hb
  have HOW := Lib.hid ho
  obtain ⟨av, cv, hv, _⟩ := ho.ints
  obtain ⟨n, hn⟩ : ∃ n, n = (O.filter (fun x => q (bxI L x))).length := ⟨_, rfl⟩
  rw [← hn] at hv
  subst hv
  clear ho hb hn
  go_wp2_with fail
  refine HS.out.mono ?_
  rintro e w2 ⟨rfl, M, hM, hp, hs, hg⟩
  have HM := Lib.hid (And.intro hM (And.intro hp (And.intro hs hg)))
  clear hM hp hs hg
  go_wp2_with fail
  go_ret
  refine ⟨_, rfl, ?_, HB.out.grown HM.out.2.2.2 HB.out.size (fun k hk => (HOW.out.lt k hk).1)⟩
  rw [← ask_sorted HO.out HM.out.2.1 HM.out.2.2.1]
  exact HM.out.1
set_option maxRecDepth 100000 in
theorem asks_nil (v : Value) (w : World) : Calls Try.prog 30 #[.pointer none, v] w fun e w' => e = .returned (.slice none 0 0) ∧ w = w' := by
  go_enter Try.func30, Try.ntmps30
  go_wp2_with fail
  go_ret
  exact ⟨rfl, rfl⟩
theorem enters_at : ∀ args w, (callFunc 31 args).run Try.prog w = .ok (.enter 31 args) w := enters_of Try.func31 (by kernel_rfl) rfl
theorem enters_over : ∀ args w, (callFunc 33 args).run Try.prog w = .ok (.enter 33 args) w := enters_of Try.func33 (by kernel_rfl) rfl
set_option maxRecDepth 100000 in
set_option maxHeartbeats 2000000 in
theorem at1_ok (p : Pt) (pb : Nat) (w : World) (hp : w.heap[pb]? = some (.cells #[.int .i64 p.x, .int .i64 p.y] 31 (0, 0))) : SoOk 31 pb (fun b => boxIn p b.1 b.2) w := by
  intro wX hX b
  dsimp only
  have hp2 := (hX.block pb (heap_lt2 hp)).trans hp
  obtain ⟨W, hW⟩ : ∃ W, W = wX.alloc (.cells #[.int .i64 b.1.x, .int .i64 b.1.y, .int .i64 b.2.x, .int .i64 b.2.y] 33) := ⟨_, rfl⟩
  have hb : Below wX.heap.size wX W := by rw [hW]; exact (Below.refl _ _).alloc (Nat.le_refl _) _
  have hp3 := (hb.block pb (heap_lt2 hp2)).trans hp2
  have c0 : W.cell? ⟨pb, 0, none⟩ = some (.int .i64 p.x) := cell_of_row _ _ _ _ _ _ hp3
  have c1 : W.cell? ⟨pb, 1, none⟩ = some (.int .i64 p.y) := cell_of_row _ _ _ _ _ _ hp3
  have HI := Lib.hid (In_any p b.1 b.2 W)
  have HB := Lib.hid hb
  obtain ⟨r, hr⟩ : ∃ r, r = boxIn p b.1 b.2 := ⟨_, rfl⟩
  rw [← hr] at HI ⊢
  rw [hW] at c0 c1
  unfold boxV ptV at *
  clear hp hp2 hX hb hp3 hr
  go_enter Try.func31, Try.ntmps31
  go_wp2_with fail
  rw [← hW]
  clear hW c0 c1
  refine HI.out.mono ?_
  rintro e w1 ⟨rfl, hg⟩
  have HG := Lib.hid (HB.out.trans (hg.1.mono HB.out.size))
  clear hg
  go_wp2_with fail
  go_ret
  exact ⟨rfl, HG.out⟩
set_option maxRecDepth 100000 in
set_option maxHeartbeats 2000000 in
theorem over1_ok (x : Bx) (pb : Nat) (w : World) (hp : w.heap[pb]? = some (.cells #[.int .i64 x.1.x, .int .i64 x.1.y, .int .i64 x.2.x, .int .i64 x.2.y] 33 (0, 0))) : SoOk 33 pb (fun b => boxMeet x.1 x.2 b.1 b.2) w := by
  intro wX hX b
  dsimp only
  have hp2 := (hX.block pb (heap_lt2 hp)).trans hp
  obtain ⟨W, hW⟩ : ∃ W, W = wX.alloc (.cells #[.int .i64 b.1.x, .int .i64 b.1.y, .int .i64 b.2.x, .int .i64 b.2.y] 33) := ⟨_, rfl⟩
  have hb : Below wX.heap.size wX W := by rw [hW]; exact (Below.refl _ _).alloc (Nat.le_refl _) _
  have hp3 := (hb.block pb (heap_lt2 hp2)).trans hp2
  have c0 : W.cell? ⟨pb, 0, none⟩ = some (.int .i64 x.1.x) := cell_of_row _ _ _ _ _ _ hp3
  have c1 : W.cell? ⟨pb, 1, none⟩ = some (.int .i64 x.1.y) := cell_of_row _ _ _ _ _ _ hp3
  have c2 : W.cell? ⟨pb, 2, none⟩ = some (.int .i64 x.2.x) := cell_of_row _ _ _ _ _ _ hp3
  have c3 : W.cell? ⟨pb, 3, none⟩ = some (.int .i64 x.2.y) := cell_of_row _ _ _ _ _ _ hp3
  have HI := Lib.hid (Meet_any x.1 x.2 b.1 b.2 W)
  have HB := Lib.hid hb
  obtain ⟨r, hr⟩ : ∃ r, r = boxMeet x.1 x.2 b.1 b.2 := ⟨_, rfl⟩
  rw [← hr] at HI ⊢
  rw [hW] at c0 c1 c2 c3
  unfold boxV at *
  clear hp hp2 hX hb hp3 hr
  go_enter Try.func33, Try.ntmps33
  go_wp2_with fail
  rw [← hW]
  clear hW c0 c1 c2 c3
  refine HI.out.mono ?_
  rintro e w1 ⟨rfl, hg⟩
  have HG := Lib.hid (HB.out.trans (hg.1.mono HB.out.size))
  clear hg
  go_wp2_with fail
  go_ret
  exact ⟨rfl, HG.out⟩
def atQ (p : Pt) (b : Bx) : Bool := boxIn p b.1 b.2
def overQ (x b : Bx) : Bool := boxMeet x.1 x.2 b.1 b.2
set_option maxRecDepth 100000 in
set_option maxHeartbeats 2000000 in
theorem At_any (g : Nat) (L : List Bx) (p : Pt) (w : World) (h : TreeIs w g L) :
    Calls Try.prog 13 #[.pointer (some ⟨g, 0, none⟩), ptV p] w (AskR (atQ p) L w) := by
  obtain ⟨W, hW⟩ : ∃ W, W = w.alloc (.cells #[.int .i64 p.x, .int .i64 p.y] 31) := ⟨_, rfl⟩
  have hb : Below w.heap.size w W := by rw [hW]; exact (Below.refl _ _).alloc (Nat.le_refl _) _
  have hp : W.heap[w.heap.size]? = some (.cells #[.int .i64 p.x, .int .i64 p.y] 31 (0, 0)) := by rw [hW]; exact alloc_new _ _
  have HA := Lib.hid (asks_any 31 w.heap.size (fun b => boxIn p b.1 b.2) (mono_in p) enters_at g L W (h.later hb) (at1_ok p w.heap.size W hp))
  have HB := Lib.hid hb
  clear h hb hp
  unfold ptV
  go_enter Try.func13, Try.ntmps13
  go_wp2_with fail
  rw [← hW]
  clear hW
  refine HA.out.mono ?_
  rintro e w1 ⟨v, rfl, ho, hb1⟩
  have H1 := Lib.hid (And.intro ho hb1)
  clear ho hb1
  go_wp2_with fail
  go_ret
  exact ⟨v, rfl, H1.out.1.base HB.out.size, HB.out.trans (H1.out.2.mono HB.out.size)⟩
set_option maxRecDepth 100000 in
set_option maxHeartbeats 2000000 in
theorem Over_any (g : Nat) (L : List Bx) (x : Bx) (w : World) (h : TreeIs w g L) :
    Calls Try.prog 16 #[.pointer (some ⟨g, 0, none⟩), boxV x.1 x.2] w (AskR (overQ x) L w) := by
  obtain ⟨W, hW⟩ : ∃ W, W = w.alloc (.cells #[.int .i64 x.1.x, .int .i64 x.1.y, .int .i64 x.2.x, .int .i64 x.2.y] 33) := ⟨_, rfl⟩
  have hb : Below w.heap.size w W := by rw [hW]; exact (Below.refl _ _).alloc (Nat.le_refl _) _
  have hp : W.heap[w.heap.size]? = some (.cells #[.int .i64 x.1.x, .int .i64 x.1.y, .int .i64 x.2.x, .int .i64 x.2.y] 33 (0, 0)) := by rw [hW]; exact alloc_new _ _
  have HA := Lib.hid (asks_any 33 w.heap.size (fun b => boxMeet x.1 x.2 b.1 b.2) (mono_meet x) enters_over g L W (h.later hb) (over1_ok x w.heap.size W hp))
  have HB := Lib.hid hb
  clear h hb hp
  unfold boxV
  go_enter Try.func16, Try.ntmps16
  go_wp2_with fail
  rw [← hW]
  clear hW
  refine HA.out.mono ?_
  rintro e w1 ⟨v, rfl, ho, hb1⟩
  have H1 := Lib.hid (And.intro ho hb1)
  clear ho hb1
  go_wp2_with fail
  go_ret
  exact ⟨v, rfl, H1.out.1.base HB.out.size, HB.out.trans (H1.out.2.mono HB.out.size)⟩
set_option maxRecDepth 100000 in
theorem At_nil (p : Pt) (w : World) : Calls Try.prog 13 #[.pointer none, ptV p] w fun e w' => e = .returned (.slice none 0 0) ∧ Below w.heap.size w w' := by
  unfold ptV
  go_enter Try.func13, Try.ntmps13
  go_wp2_with fail
  refine (asks_nil _ _).mono ?_
  rintro e w1 ⟨rfl, rfl⟩
  go_wp2_with fail
  go_ret
  exact ⟨rfl, (Below.refl _ _).alloc (Nat.le_refl _) _⟩
set_option maxRecDepth 100000 in
theorem Over_nil (x : Bx) (w : World) : Calls Try.prog 16 #[.pointer none, boxV x.1 x.2] w fun e w' => e = .returned (.slice none 0 0) ∧ Below w.heap.size w w' := by
  unfold boxV
  go_enter Try.func16, Try.ntmps16
  go_wp2_with fail
  refine (asks_nil _ _).mono ?_
  rintro e w1 ⟨rfl, rfl⟩
  go_wp2_with fail
  go_ret
  exact ⟨rfl, (Below.refl _ _).alloc (Nat.le_refl _) _⟩
end Go.Proofs.Ytlmmejdcjhbppaa
