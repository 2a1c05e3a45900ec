/- the reference's disk: what its calls leave as it was; a file's safe bytes -/
import Derived.Test.YtjkkfjmloleedaaGreatRAppNew
import Derived.Test.YtjkkfjmloleedaaGreatRApp
namespace Go.Proofs.YtjkkfjmloleedaaGreat
open Go.RowKit
set_option linter.unusedSectionVars false
variable [Zone]
theorem IsBytesZ.later {w w' : World} {ao : Option Addr} {n cap : Nat} {l : List UInt8} (h : IsBytesZ w ao n cap l) (hb : Below w.heap.size w w') : IsBytesZ w' ao n cap l := h.moved fun j _ _ hc => hb.block j (block_lt_of_cell hc)
/-- the block in which the files lie. -/
theorem RefAt.listed {w : World} {r base : Nat} {R : List FileV} {N lf : Int} {fz out : Bool} (h : RefAt w r base R N fz lf out) {j : Nat} (hj : listOf w r = some j) : ∃ c fr, w.heap[j]? = some (.cells c 86 fr) ∧ ∀ u ∈ c, PlainV u := by
  obtain ⟨_, v, T, hr, hown, hf⟩ := h
  rw [listOf_row hr] at hj
  rcases hown.1.2 with ⟨rfl, _⟩ | ⟨g, cap, cur, rfl, _, hg, _⟩
  · simp [Value.ownBlock] at hj
  · simp only [Value.ownBlock, Option.some.injEq] at hj
    subst hj
    exact ⟨_, _, hg, fun u hu => hown.2.1 _ _ _ _ rfl hg u hu⟩
theorem RefAt.kept {w w' : World} {r base : Nat} {R : List FileV} {N lf : Int} {fz out : Bool} (h : RefAt w r base R N fz lf out) (hm : MovedR r base w w') {j : Nat} {c : Array Value} {t : TypeId} {fr : Nat × Nat} (hj : w.heap[j]? = some (.cells c t fr)) (h1 : t ≠ 29) (h2 : t ≠ 86) : w'.heap[j]? = w.heap[j]? := by
  refine hm.block j (heap_lt hj) ?_ (fun e => ?_)
  · rintro rfl
    obtain ⟨v, hr⟩ := h.row
    unfold RefRow at hr
    rw [hr] at hj
    injection hj with hj
    injection hj with _ hj
    exact h1 hj.symm
  · obtain ⟨c', fr', hg, _⟩ := h.listed e
    rw [hg] at hj
    injection hj with hj
    injection hj with _ hj
    exact h2 hj.symm
theorem RefAt.kept_map {w w' : World} {r base : Nat} {R : List FileV} {N lf : Int} {fz out : Bool} (h : RefAt w r base R N fz lf out) (hm : MovedR r base w w') {j c : Nat} {es : Array MapEntry} (hj : w.heap[j]? = some (.map es c)) : w'.heap[j]? = w.heap[j]? := by
  refine hm.block j (heap_lt hj) ?_ (fun e => ?_)
  · rintro rfl
    obtain ⟨v, hr⟩ := h.row
    unfold RefRow at hr
    rw [hr] at hj
    cases hj
  · obtain ⟨c', fr', hg, _⟩ := h.listed e
    rw [hg] at hj
    cases hj
theorem RefAt.kept_u8 {w w' : World} {r base : Nat} {R : List FileV} {N lf : Int} {fz out : Bool} (h : RefAt w r base R N fz lf out) (hm : MovedR r base w w') {j off : Nat} {v : Int} (hc : w.cell? ⟨j, off, none⟩ = some (.int .u8 v)) : w'.heap[j]? = w.heap[j]? := by
  refine hm.block j (block_lt_of_cell hc) ?_ (fun e => ?_)
  · rintro rfl
    obtain ⟨x, T, hr, hown, _⟩ := h.2
    obtain ⟨a, cap, rfl, _⟩ := hown.is3
    have hp : Plain w j := plain_of_cells hr (by simp [plainV])
    have := hp _ _ hc
    simp [plainV] at this
  · obtain ⟨c', fr', hg, hp⟩ := h.listed e
    simp only [World.cell?, hg] at hc
    have := hp _ (Array.mem_of_getElem? hc)
    simp [PlainV, plainV] at this
theorem RefAt.safeZ {w : World} {r base k g cap : Nat} {R : List FileV} {N lf : Int} {fz out : Bool} {sa : Option Addr} {sn sc : Nat} (h : RefAt w r base R N fz lf out) (hk : k < R.length) (hr : RefRow w r (.slice (some ⟨g, 0, none⟩) R.length cap) N fz lf out) (hq : w.cell? ⟨g, k * 3 + 1, none⟩ = some (.slice sa sn sc)) : IsBytesZ w sa sn sc (R.getD k f0).2.1 := by
  obtain ⟨_, v, T, hr', hown, hf⟩ := h
  obtain ⟨ao, cap', rfl, h3⟩ := hown.is3
  unfold RefRow at hr hr'
  rw [hr'] at hr
  injection hr with hr
  injection hr with hr _
  have e0 := congrArg (fun a : Array Value => a[0]?) hr
  simp at e0
  obtain ⟨e1, e2, _⟩ := e0
  subst e1
  obtain ⟨b, off, e, g0, g1, g2⟩ := h3.cells (show k < T.length by rw [hf.1]; exact hk)
  injection e with e
  injection e with e3 e4
  subst e3
  subst e4
  obtain ⟨_, ⟨a, n, c, e1, hb⟩, _⟩ := hf.2 k hk
  rw [Nat.zero_add, hq, e1] at g1
  injection g1 with g1
  injection g1 with g1 g2 g3
  subst g1
  subst g2
  subst g3
  exact hb
theorem atR_ex (s : ByteArray) (R : List FileV) : ∃ z, AtR s R z := by
  have key : ∀ d k, R.length - k = d → k ≤ R.length → (∀ j, j < k → (R.getD j f0).1 ≠ s) → ∃ z, AtR s R z := by
    intro d
    induction d with
    | zero => exact fun k h1 h2 h3 => ⟨-1, .inr ⟨rfl, fun j hj => h3 j (by omega)⟩⟩
    | succ d ih =>
      intro k h1 h2 h3
      by_cases hb : (R.getD k f0).1 = s
      · exact ⟨k, .inl ⟨k, rfl, by omega, hb, h3⟩⟩
      · refine ih (k + 1) (by omega) (by omega) (fun j hj => ?_)
        rcases Nat.lt_succ_iff_lt_or_eq.1 hj with q | rfl
        · exact h3 j q
        · exact hb
  exact key _ 0 rfl (Nat.zero_le _) (fun j hj => absurd hj (by omega))
end Go.Proofs.YtjkkfjmloleedaaGreat

/- the reference's disk: keeps, walked -/
namespace Go.Proofs.YtjkkfjmloleedaaGreat
open Go.RowKit
set_option linter.unusedSectionVars false
variable [Zone]
set_option maxRecDepth 100000 in
set_option maxHeartbeats 1000000 in
theorem keeps_any (nm : ByteArray) (sv : Value) (al : Option Addr) (m capl : Nat) (D : List Deed) (z : Nat) (w : World) (hz : z ≤ 4294967296) (hD : D.length ≤ 100000) (hd : IsRActs w al m capl D) :
    Calls Tryz.prog 55 #[.agg #[.string nm, sv, .slice al m capl], .int .i64 (z : Int)] w fun e w' => ∃ v, e = .returned v ∧ OwnA w' w.heap.size v (keepsD z D) ∧ Below w.heap.size w w' := by
  have hm := hd.len.2.1
  have hcm := hd.len.2.2
  unfold maxLen at hcm
  have HD := Lib.hid (And.intro hd hD)
  clear hd hD
  go_enter Tryz.func55, Tryz.ntmps55
  go_wp2_with fail
  have hb1 : Below w.heap.size w (w.alloc (.cells #[.string nm, sv, .slice al m capl] 86)) := (Below.refl _ _).alloc (Nat.le_refl _) _
  have hx := heap_alloc_new w (.cells #[.string nm, sv, .slice al m capl] 86)
  obtain ⟨N, hN⟩ : ∃ N, N = w.heap.size := ⟨_, rfl⟩
  rw [← hN] at hx ⊢
  generalize w.alloc (.cells #[.string nm, sv, .slice al m capl] 86) = w1 at hb1 hx ⊢
  have HB1 := Lib.hid (And.intro hb1 (And.intro hN (heap_lt hx)))
  have c2 : w1.cell? ⟨N, 2, none⟩ = some (.slice al m capl) := cell_of_row _ _ _ _ _ _ hx
  clear hb1 hx hN
  go_loopw [1, 5, 6] (fun sn so si wr => ∃ (k nn : Nat) (E : List Deed), k ≤ m ∧ si = .int .i64 (k : Int) ∧ sn = .int .i64 (nn : Int) ∧ nn ≤ 4294967296 ∧ Hid (OwnA wr w1.heap.size so E) ∧ Hid (keepsD z D = E ++ keepsD nn (D.drop k) ∧ E.length ≤ k) ∧ Hid (Below w1.heap.size w1 wr)) (fun _ _ i _ => m - (intOf i).toNat)
  case atStart => exact ⟨0, z, [], by omega, rfl, rfl, hz, Lib.hid (OwnA.nil _ _), Lib.hid ⟨rfl, by simp⟩, Lib.hid (Below.refl _ _)⟩
  case round =>
    obtain ⟨k, nn, E, hk, rfl, rfl, hnn, hown, heq, hbl⟩ := hrel
    have c2' : wr.cell? ⟨N, 2, none⟩ = some (.slice al m capl) := (hbl.out.cell (p := ⟨N, 2, none⟩) HB1.out.2.2).trans c2
    by_cases hlt : k < m
    · have hi0 : (0 : Int) ≤ (k : Int) := by omega
      have hi5 : (k : Int) < (m : Int) := by omega
      by_cases hn0 : (0 : Int) < (nn : Int)
      · obtain ⟨g, off, q0, q1, q2, rfl, g0, g1, g2, hv⟩ := (HD.out.1.later (HB1.out.1.trans (hbl.out.mono HB1.out.1.size))).cells hlt
        have hkl : k < D.length := by rw [HD.out.1.len.1]; exact hlt
        obtain ⟨x, hx⟩ : ∃ x, x = D.getD k (.cut 0) := ⟨_, rfl⟩
        have hdk : D.drop k = x :: D.drop (k + 1) := by
          rw [List.drop_eq_getElem_cons hkl, hx, List.getD_eq_getElem?_getD, List.getElem?_eq_getElem hkl]; rfl
        rw [← hx] at hv
        have HX := Lib.hid hdk
        have HEL : Hid (E.length ≤ 100000) := Lib.hid (by have h1 := heq.out.2; have h2 := HD.out.1.len.1; have h3 := HD.out.2; omega)
        obtain ⟨av, cv, hsv, _⟩ := hown.out.acts
        subst hsv
        clear hdk hx
        cases x with
        | cut y =>
          obtain ⟨rfl, rfl, rfl⟩ := hv
          have hw1 : IntKind.i64.wrap ((nn : Int) - 1) = (((nn - 1 : Nat)) : Int) := by
            rw [IntWalk.i64_in _ (by omega)]
            omega
          have HIS := Lib.hid (show Is3 ((wr.alloc (.cells #[.bool true, .int .i64 (y : Int), .slice none 0 0] 97)).alloc (.cells #[.bool true, .int .i64 (y : Int), .slice none 0 0] 97)) 97 (some ⟨wr.heap.size + 1, 0, none⟩) 1 1 [(.bool true, .int .i64 (y : Int), .slice none 0 0)] from by
            have e := Is3.one (wr.alloc (.cells #[.bool true, .int .i64 (y : Int), .slice none 0 0] 97)) 97 (.bool true, .int .i64 (y : Int), .slice none 0 0) (by intro u hu; simp [flat3] at hu; rcases hu with rfl | rfl | rfl <;> trivial)
            rw [show (wr.alloc (.cells #[.bool true, .int .i64 (y : Int), .slice none 0 0] 97)).heap.size = wr.heap.size + 1 by simp] at e
            exact e)
          have HBX := Lib.hid (show Below wr.heap.size wr ((wr.alloc (.cells #[.bool true, .int .i64 (y : Int), .slice none 0 0] 97)).alloc (.cells #[.bool true, .int .i64 (y : Int), .slice none 0 0] 97)) from ((Below.refl _ _).alloc (Nat.le_refl _) _).alloc (by simp) _)
          go_wp2_with (at_builtin; go_loud (refine wpList_append_act rfl _ _ rfl w1.heap.size (.slice av E.length cv) E rfl (hown.out.later HBX.out) (wr.heap.size + 1) (.bool true, .int .i64 (y : Int), .slice none 0 0) (.cut y) rfl HIS.out ⟨rfl, rfl, rfl⟩ (by have := HEL.out; omega) (by have := HBX.out.size; have := hbl.out.size; omega) ?_; intro v2 w2 hown2 hg2; have H2 := Lib.hid (And.intro hown2 ((hbl.out.trans (HBX.out.mono hbl.out.size)).grown hg2 (by have := HBX.out.size; have := hbl.out.size; omega) (fun j hj => ((hown.out.later HBX.out).lt hj).1))); clear hown2 hg2))
          go_roundw
          case rel =>
            refine ⟨k + 1, nn - 1, E ++ [.cut y], by omega, by go_num, rfl, by omega, Lib.hid H2.out.1, Lib.hid ⟨?_, ?_⟩, Lib.hid H2.out.2⟩
            · rw [heq.out.1, HX.out, keepsD_cut _ _ (by omega)]
              simp
            · have := heq.out.2
              simp
              omega
          case measure => simp [intOf]; omega
        | more bs =>
          obtain ⟨rfl, rfl, a, q, cq, rfl, hbs, hzs⟩ := hv
          have HZS := Lib.hid hzs
          clear hzs
          obtain ⟨mn, hmn⟩ : ∃ mn, mn = min nn q := ⟨_, rfl⟩
          have hst := slice_to hbs mn (by omega)
          have hsl := hst.1
          have hql := hbs.1
          have HBS := Lib.hid (And.intro hst.2 hql)
          have hmi : min (nn : Int) (q : Int) = (mn : Int) := by omega
          have hw1 : IntKind.i64.wrap ((nn : Int) - (mn : Int)) = (((nn - mn : Nat)) : Int) := by
            rw [IntWalk.i64_in _ (by omega)]
            omega
          have HIS := Lib.hid (show Is3 ((wr.alloc (.cells #[.bool false, .int .i64 0, .slice a q cq] 97)).alloc (.cells #[.bool false, .int .i64 0, .slice a mn cq] 97)) 97 (some ⟨wr.heap.size + 1, 0, none⟩) 1 1 [(.bool false, .int .i64 0, .slice a mn cq)] from by
            have e := Is3.one (wr.alloc (.cells #[.bool false, .int .i64 0, .slice a q cq] 97)) 97 (.bool false, .int .i64 0, .slice a mn cq) (by intro u hu; simp [flat3] at hu; rcases hu with rfl | rfl | rfl <;> trivial)
            rw [show (wr.alloc (.cells #[.bool false, .int .i64 0, .slice a q cq] 97)).heap.size = wr.heap.size + 1 by simp] at e
            exact e)
          have HBX := Lib.hid (show Below wr.heap.size wr ((wr.alloc (.cells #[.bool false, .int .i64 0, .slice a q cq] 97)).alloc (.cells #[.bool false, .int .i64 0, .slice a mn cq] 97)) from ((Below.refl _ _).alloc (Nat.le_refl _) _).alloc (by simp) _)
          have HMN := Lib.hid hmn
          clear hst hbs hql hmn
          go_wp2_with (at_builtin; go_loud (refine wpList_append_act rfl _ _ rfl w1.heap.size (.slice av E.length cv) E rfl (hown.out.later HBX.out) (wr.heap.size + 1) (.bool false, .int .i64 0, .slice a mn cq) (.more (bs.take mn)) rfl HIS.out ⟨rfl, rfl, a, mn, cq, rfl, HBS.out.1.later HBX.out, fun hm => HZS.out (by have h1 := HMN.out; omega)⟩ (by have := HEL.out; omega) (by have := HBX.out.size; have := hbl.out.size; omega) ?_; intro v2 w2 hown2 hg2; have H2 := Lib.hid (And.intro hown2 ((hbl.out.trans (HBX.out.mono hbl.out.size)).grown hg2 (by have := HBX.out.size; have := hbl.out.size; omega) (fun j hj => ((hown.out.later HBX.out).lt hj).1))); clear hown2 hg2))
          go_roundw
          case rel =>
            refine ⟨k + 1, nn - mn, E ++ [.more (bs.take mn)], by omega, by go_num, rfl, by omega, Lib.hid H2.out.1, Lib.hid ⟨?_, ?_⟩, Lib.hid H2.out.2⟩
            · have h9 := HMN.out
              rw [← HBS.out.2] at h9
              rw [heq.out.1, HX.out, keepsD_more _ _ (by omega), ← h9]
              simp
            · have := heq.out.2
              simp
              omega
          case measure => simp [intOf]; omega
      · have hkz : nn = 0 := by omega
        go_wp2_with fail
        go_ret
        have h1 := heq.out.1
        rw [hkz, keepsD_zero, List.append_nil] at h1
        rw [h1]
        exact ⟨_, rfl, hown.out.base HB1.out.1.size, HB1.out.1.trans (hbl.out.mono HB1.out.1.size)⟩
    · obtain rfl : k = m := by omega
      have hi5 : ¬ (k : Int) < (k : Int) := by omega
      go_wp2_with fail
      go_ret
      have h1 := heq.out.1
      rw [List.drop_of_length_le (by rw [HD.out.1.len.1]; exact Nat.le_refl _), show keepsD nn [] = [] by simp [keepsD], List.append_nil] at h1
      rw [h1]
      exact ⟨_, rfl, hown.out.base HB1.out.1.size, HB1.out.1.trans (hbl.out.mono HB1.out.1.size)⟩
end Go.Proofs.YtjkkfjmloleedaaGreat
