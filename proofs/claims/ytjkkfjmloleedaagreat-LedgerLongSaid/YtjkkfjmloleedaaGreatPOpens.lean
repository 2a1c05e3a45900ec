/- layer 28's statements: opens -/
import Derived.Test.YtjkkfjmloleedaaGreatPAct3
import Derived.Test.YtjkkfjmloleedaaGreatOver
set_option linter.unusedSimpArgs false
set_option linter.unusedVariables false
namespace Go.Proofs.YtjkkfjmloleedaaGreat
open Go.RowKit
set_option linter.unusedSectionVars false
theorem Loose.over {w w' : World} {B S n : Nat} {v u : Value} {vs : List Value} (h1 : vs.length = n) (h2 : w.ownsRow B 36 1 v n vs) (h2b : ∀ g, v.ownBlock = some g → g < S)
    (h3 : ∀ i, i < n → ∃ u l, vs[i]? = some u ∧ OwnB w B u l ∧ (∀ g, u.ownBlock = some g → g < S)) {l : List UInt8} (hu : OwnB w B u l) (hg : w.grownBy w' u.ownBlock)
    (ho : ∀ base2 u l2, OwnB w base2 u l2 → ∃ l3 : List UInt8, l3.length = l2.length ∧ OwnB w' base2 u l3) : Loose w' B S n v := by
  refine ⟨vs, h1, ?_, h2b, fun i hi => ?_⟩
  · refine ownsRow_move h2 (fun g hgv => hg.block g (h2.lt g hgv).2 (fun e => ?_))
    exact ownBlock_ne (by decide) h2 hu.1 g e.symm hgv.symm
  · obtain ⟨x, lx, hx, hox, hsx⟩ := h3 i hi
    obtain ⟨l3, _, ho3⟩ := ho B x lx hox
    exact ⟨x, l3, hx, ho3, hsx⟩
theorem Loose.fr {w w' : World} {base B S n : Nat} {v : Value} (h : Loose w B S n v) (k : FR base none w w') : Loose w' B S n v := by
  have key : ∀ {e s n : Nat} {u : Value} {xs : List Value}, w.ownsRow B e s u n xs → e = 36 ∨ e = 5 → ∀ g, u.ownBlock = some g → w'.heap[g]? = w.heap[g]? := by
    intro e s n u xs hu he g hg
    rcases hu.2 with ⟨rfl, _⟩ | ⟨g', cap', cur, rfl, _, hg', _⟩
    · simp [Value.ownBlock] at hg
    · simp only [Value.ownBlock, Option.some.injEq] at hg
      subst hg
      exact (k.cells _ _ _ _ hg' (by rcases he with rfl | rfl <;> unfold TR <;> decide) (by simp)).trans hg'.symm
  obtain ⟨vs, h1, h2, h2b, h3⟩ := h
  refine ⟨vs, h1, ownsRow_move h2 (key h2 (.inl rfl)), h2b, fun i hi => ?_⟩
  obtain ⟨u, l, hu, ho, hs⟩ := h3 i hi
  exact ⟨u, l, hu, ho.move (key ho.1 (.inr rfl)), hs⟩
theorem Loose.setP {w : World} {B S n b off : Nat} {v u : Value} {c : Array Value} {t : TypeId} {fr : Nat × Nat} (h : Loose w B S n v) (hb : w.heap[b]? = some (.cells c t fr)) (ht : t ≠ 36) (ht2 : t ≠ 5) : Loose (w.setCell ⟨b, off, none⟩ u) B S n v := by
  have key : ∀ {e s n : Nat} {x : Value} {xs : List Value}, w.ownsRow B e s x n xs → e = 36 ∨ e = 5 → ∀ g, x.ownBlock = some g → (w.setCell ⟨b, off, none⟩ u).heap[g]? = w.heap[g]? := by
    intro e s n x xs hu he g hg
    rcases hu.2 with ⟨rfl, _⟩ | ⟨g', cap', cur, rfl, _, hg', _⟩
    · simp [Value.ownBlock] at hg
    · simp only [Value.ownBlock, Option.some.injEq] at hg
      subst hg
      refine Below.heap_setCell _ _ _ _ (fun e9 => ?_)
      have e9 : g' = b := e9
      subst e9
      rw [hb] at hg'
      injection hg' with hg'
      injection hg' with _ hg'
      subst hg'
      rcases he with he | he
      · exact ht he
      · exact ht2 he
  obtain ⟨vs, h1, h2, h2b, h3⟩ := h
  refine ⟨vs, h1, ownsRow_move h2 (key h2 (.inl rfl)), h2b, fun i hi => ?_⟩
  obtain ⟨x, l, hu, ho, hs⟩ := h3 i hi
  exact ⟨x, l, hu, ho.move (key ho.1 (.inr rfl)), hs⟩
theorem openG_nm {nm : ByteArray} {g : Sig} {L : LSig} (h : (openG nm g).2.1 = some L) : L.nm = nm := by
  have key : ∀ n sz R g', (openE nm n sz R g').2.1 = some L → L.nm = nm := by
    intro n sz R g' h
    unfold openE at h
    split at h
    · cases h
    · injection h with h
      rw [← h]
  unfold openG at h
  repeat' split at h
  all_goals first
    | cases h
    | exact key _ _ _ _ h
/-- only rows of bytes between the marks change. -/
structure Ov (lo hi : Nat) (w w' : World) : Prop where
  os : w'.os = w.os
  tape : w'.tape = w.tape
  output : w'.output = w.output
  size : w.heap.size ≤ w'.heap.size
  block : ∀ j, j < w.heap.size → ¬ (lo ≤ j ∧ j < hi) → w'.heap[j]? = w.heap[j]?
  cells : ∀ (j : Nat) (c : Array Value) (t : TypeId) (fr : Nat × Nat), w.heap[j]? = some (.cells c t fr) → t ≠ 5 → w'.heap[j]? = w.heap[j]?
  map : ∀ (j : Nat) (es : Array MapEntry) (c : Nat), w.heap[j]? = some (.map es c) → w'.heap[j]? = w.heap[j]?
theorem Ov.refl (lo hi : Nat) (w : World) : Ov lo hi w w := ⟨rfl, rfl, rfl, Nat.le_refl _, fun _ _ _ => rfl, fun _ _ _ _ _ _ => rfl, fun _ _ _ _ => rfl⟩
theorem Ov.over {lo hi : Nat} {w w1 w2 : World} {u : Value} {l : List UInt8} (h : Ov lo hi w w1) (hu : OwnB w1 lo u l) (hb : ∀ g, u.ownBlock = some g → g < hi) (hg : w1.grownBy w2 u.ownBlock) : Ov lo hi w w2 := by
  have hne : ∀ {j : Nat} {o : Obj}, w1.heap[j]? = some o → (∀ c fr, o ≠ .cells c 5 fr) → some j ≠ u.ownBlock := by
    intro j o hj ho e
    rcases hu.1.2 with ⟨rfl, _⟩ | ⟨g', cap', cur, rfl, _, hg', _⟩
    · simp [Value.ownBlock] at e
    · simp only [Value.ownBlock, Option.some.injEq] at e
      subst e
      rw [hg'] at hj
      injection hj with hj
      exact ho _ _ hj.symm
  refine ⟨hg.os.trans h.os, hg.tape.trans h.tape, hg.output.trans h.output, Nat.le_trans h.size hg.size, fun j hj hn => ?_, fun j c t fr hj ht => ?_, fun j es c hj => ?_⟩
  · refine (hg.block j (Nat.lt_of_lt_of_le hj h.size) (fun e => hn ⟨(hu.1.lt j e.symm).1, hb j e.symm⟩)).trans (h.block j hj hn)
  · have h1 := (h.cells j c t fr hj ht)
    refine (hg.block j (Nat.lt_of_lt_of_le (heap_lt hj) h.size) (hne (h1.trans hj) (fun c' fr' e => ?_))).trans h1
    injection e with _ e
    exact ht e
  · have h1 := (h.map j es c hj)
    exact (hg.block j (Nat.lt_of_lt_of_le (heap_lt hj) h.size) (hne (h1.trans hj) (fun c' fr' e => by cases e))).trans h1
theorem Ov.below {lo hi base : Nat} {w w' : World} (h : Ov lo hi w w') (hb : base ≤ lo) (hb2 : base ≤ w.heap.size) : Below base w w' := ⟨h.os, h.tape, h.output, h.size, fun j hj => h.block j (by omega) (by omega)⟩
theorem Ov.ds {lo hi d mb base : Nat} {w w' : World} {g : Sig} (h : Ov lo hi w w') (hd : @DSig (Zi lo hi) w d mb base g) : @DSig Z0 w' d mb base g :=
  DSig.rezone (Z1 := Zi lo hi) (Z2 := Z0) hd h.size h.block h.cells h.map (fun k hk => hk.elim)
theorem Ov.rs {lo hi r base : Nat} {w w' : World} {g : Sig} (h : Ov lo hi w w') (hr : @RSig (Zi lo hi) w r base g) : @RSig Z0 w' r base g :=
  RSig.rezone (Z1 := Zi lo hi) (Z2 := Z0) hr h.block h.cells (fun k hk => hk.elim)
theorem pairv_plain {d r : Nat} {a b : Option Addr} : ∀ u ∈ (#[.pointer (some ⟨d, 0, none⟩), .pointer (some ⟨r, 0, none⟩), .pointer a, .pointer b] : Array Value).toList, plainV u = true := by simp [plainV]
section
variable {p d mb r base q k : Nat} {g : Sig} {Lo : Option LSig} {lv mv : Value} {w : World}
theorem PairAt.ptrs (h : PairAt w p d mb r base q k g Lo lv mv) : ∃ a b, lv = .pointer a ∧ mv = .pointer b := by
  rcases h.led with ⟨_, h1, h2⟩ | ⟨_, l, m, _, h1, h2, _⟩
  · exact ⟨_, _, h1, h2⟩
  · exact ⟨_, _, h1, h2⟩
theorem RSig.zi {r' b' hi : Nat} {W : World} {g' : Sig} (h : @RSig Z0 W r' b' g') : @RSig (Zi W.heap.size hi) W r' b' g' :=
  RSig.rezone (Z1 := Z0) (Z2 := Zi W.heap.size hi) h (fun _ _ _ => rfl) (fun _ _ _ _ _ _ => rfl) (fun k hk => .inr hk.1)
set_option maxRecDepth 100000 in
set_option maxHeartbeats 2000000 in
theorem opens_none (nm : ByteArray) (hss : nm.size ≤ 1099511627776) (h : PairAt w p d mb r base q k g Lo lv mv) (hq : q + 2 ≤ 4294967296) (hk9 : k + 3 ≤ 100000) (hLo : (openG nm g).2.1 = none) :
    Calls Tryz.prog 10 #[.pointer (some ⟨p, 0, none⟩), .string nm] w fun e w' => PActR p d mb r base (q + 1) (k + 2) w e w' := by
  obtain ⟨a0, b0, rfl, rfl⟩ := h.ptrs
  obtain ⟨z, Lx, recs, g', hzg⟩ : ∃ z Lx recs g', openG nm g = (z, Lx, recs, g') := ⟨_, _, _, _, rfl⟩
  rw [hzg] at hLo
  dsimp only at hLo
  have hzL := congrArg (fun o => o.2.1) hzg
  dsimp only at hzL
  subst hLo
  have hlim := openG_lim (nm := nm) (q' := q + 1) (k' := k + 2) h.lim (Nat.le_refl _) (Nat.le_refl _)
  rw [hzg] at hlim
  dsimp only at hlim
  have HO := Lib.hid (Open_S nm hss base d mb q k g w h.hb h.ds h.lim (by omega) (by omega))
  have HRO := Lib.hid (fun (Z : Zone) (w' : World) (hb : base ≤ w'.heap.size) (hr : @RSig Z w' r base g) (hz : @ZW Z w') => @rOpen_S Z nm hss base r q k g w' hb hr hz h.lim h.fit (by omega) (by omega))
  rw [hzg] at HO HRO
  have HA := Lib.hid h
  have HL := Lib.hid hlim
  have HNM := Lib.hid hss
  have HZL := Lib.hid hzL
  clear hzL
  have hzz : (z == z) = true := by simp
  have p0 := h.cells.1
  clear h hlim hzg hss hq hk9
  go_enter Tryz.func10, Tryz.ntmps10
  go_wp2_with fail
  refine HO.out.mono ?_
  rintro e w1 ⟨hi, hh1, hh2, ⟨lv1, v1, rfl, hd1, hl1, hf1, hled⟩, hloose⟩
  have hlo1 := hloose _ _ _ rfl
  obtain ⟨xa, xc, rfl, _⟩ := hl1.reads
  dsimp only at hd1 hl1 hled hlo1
  obtain rfl : lv1 = .pointer none := by
    rcases hled with ⟨_, h9⟩ | ⟨L9, l9, h9, _⟩
    · exact h9
    · cases h9
  have hp1 : w1.heap[p]? = some (.cells #[.pointer (some ⟨d, 0, none⟩), .pointer (some ⟨r, 0, none⟩), .pointer a0, .pointer b0] 33 (0, 0)) := hf1.cells _ _ _ _ HA.out.row (by unfold TD; decide) (by simp)
  have hr1 : @RSig (Zi w.heap.size hi) w1 r base g := @RSig.fd (Zi w.heap.size hi) _ _ _ _ _ _ none (RSig.zi HA.out.rs) hf1 (fun j hj => by cases hj)
  have H1 := Lib.hid (And.intro hd1 (And.intro hl1 (And.intro hf1 (And.intro hlo1 (And.intro hp1 (And.intro hr1 (And.intro hh1 hh2)))))))
  have p1 : w1.cell? ⟨p, 1, none⟩ = some (.pointer (some ⟨r, 0, none⟩)) := cell_of_row _ _ _ _ _ _ hp1
  clear hd1 hl1 hf1 hlo1 hp1 hr1 hled hloose p0 hh1 hh2
  go_wp2_with fail
  refine (HRO.out (Zi w.heap.size hi) w1 (Nat.le_trans HA.out.hb H1.out.2.2.1.below.size) H1.out.2.2.2.2.2.1 (fun k hk => Nat.lt_of_lt_of_le hk.2 H1.out.2.2.2.2.2.2.2)).mono ?_
  rintro e w2 ⟨mv1, v2, rfl, hr2, hl2, hf2, hled⟩
  obtain ⟨ya, yc, rfl, _⟩ := hl2.reads
  dsimp only at hr2 hl2 hled
  obtain rfl : mv1 = .pointer none := by
    rcases hled with ⟨_, h9⟩ | ⟨L9, l9, h9, _⟩
    · exact h9
    · cases h9
  have hp2 : w2.heap[p]? = some (.cells #[.pointer (some ⟨d, 0, none⟩), .pointer (some ⟨r, 0, none⟩), .pointer a0, .pointer b0] 33 (0, 0)) := hf2.cells _ _ _ _ H1.out.2.2.2.2.1 (by unfold TR; decide) (by simp)
  have hd2 : @DSig (Zi w.heap.size hi) w2 d mb base g' := @DSig.fr (Zi w.heap.size hi) _ _ _ _ _ _ _ none H1.out.1 hf2 (fun j hj => by cases hj)
  have hlx2 := hf2.lists H1.out.2.1
  have hlo2 := H1.out.2.2.2.1.fr hf2
  have z2 : w2.frozen? ⟨p, 2, none⟩ = false := frozen_of_row _ _ _ _ _ hp2
  have q2 := heap_setCell_same w2 p 2 _ _ (.pointer none) hp2
  have q3 := heap_setCell_same _ p 3 _ _ (.pointer none) q2
  have z3 : (w2.setCell ⟨p, 2, none⟩ (.pointer none)).frozen? ⟨p, 3, none⟩ = false := frozen_of_row _ _ _ _ _ q2
  have cz2 : w2.cell? ⟨p, 2, none⟩ = some (.pointer a0) := cell_of_row _ _ _ _ _ _ hp2
  have cz3 : (w2.setCell ⟨p, 2, none⟩ (.pointer none)).cell? ⟨p, 3, none⟩ = some (.pointer b0) := cell_of_row _ _ _ _ _ _ q2
  have hbp := HA.out.hp
  have hd3 : @DSig (Zi w.heap.size hi) ((w2.setCell ⟨p, 2, none⟩ (.pointer none)).setCell ⟨p, 3, none⟩ (.pointer none)) d mb base g' := @DSig.fd (Zi w.heap.size hi) _ _ _ _ base _ _ _ _ _ _ _ (@DSig.fd (Zi w.heap.size hi) _ _ _ _ base _ _ _ _ _ _ _ hd2 hp2 (by simp [plainV]) (by unfold TD; decide) hbp) q2 (by simp [plainV]) (by unfold TD; decide) hbp
  have hr3 : @RSig (Zi w.heap.size hi) ((w2.setCell ⟨p, 2, none⟩ (.pointer none)).setCell ⟨p, 3, none⟩ (.pointer none)) r base g' := @RSig.fr (Zi w.heap.size hi) _ _ _ _ _ _ _ _ _ _ (@RSig.fr (Zi w.heap.size hi) _ _ _ _ _ _ _ _ _ _ hr2 hp2 (by simp [plainV]) ⟨by unfold TR; decide, by decide⟩) q2 (by simp [plainV]) ⟨by unfold TR; decide, by decide⟩
  have hf3 : FR base (some p) w2 ((w2.setCell ⟨p, 2, none⟩ (.pointer none)).setCell ⟨p, 3, none⟩ (.pointer none)) := (FR.setCell hp2 (by simp [plainV]) hbp _).trans (FR.setCell q2 (by simp [plainV]) hbp _)
  have hlx3 : Lists ((w2.setCell ⟨p, 2, none⟩ (.pointer none)).setCell ⟨p, 3, none⟩ (.pointer none)) w.heap.size (.slice xa recs.length xc) recs := (hlx2.setCell hp2 (by decide) (by decide)).setCell q2 (by decide) (by decide)
  have hly3 : Lists ((w2.setCell ⟨p, 2, none⟩ (.pointer none)).setCell ⟨p, 3, none⟩ (.pointer none)) w1.heap.size (.slice ya recs.length yc) recs := (hl2.setCell hp2 (by decide) (by decide)).setCell q2 (by decide) (by decide)
  have hlo3 : Loose ((w2.setCell ⟨p, 2, none⟩ (.pointer none)).setCell ⟨p, 3, none⟩ (.pointer none)) w.heap.size hi recs.length (.slice xa recs.length xc) := (hlo2.setP hp2 (by decide) (by decide)).setP q2 (by decide) (by decide)
  have hbb3 : Below base w ((w2.setCell ⟨p, 2, none⟩ (.pointer none)).setCell ⟨p, 3, none⟩ (.pointer none)) := (H1.out.2.2.1.below.trans hf2.below).trans hf3.below
  clear hf2 hled hp2 hd2 hlx2 hlo2 hr2 hl2 q2 hbp p1 hf3
  go_wp2_with fail
  generalize ((w2.setCell ⟨p, 2, none⟩ (.pointer none)).setCell ⟨p, 3, none⟩ (.pointer none)) = w3 at hd3 hr3 hlx3 hly3 hlo3 hbb3 q3 ⊢
  clear z2 z3 cz2 cz3
  have H3 := Lib.hid (And.intro hd3 (And.intro hr3 (And.intro hlo3 (And.intro hbb3 q3))))
  obtain ⟨xa2, xc2, ex, hxr⟩ := hlx3.reads
  obtain ⟨ya2, yc2, ey, hyr⟩ := hly3.reads
  injection ex with ex1 _ ex3
  injection ey with ey1 _ ey3
  subst ex1 ex3 ey1 ey3
  have HXY := Lib.hid (And.intro hxr hyr)
  clear hd3 hr3 hlx3 hly3 hlo3 hbb3 q3 hxr hyr
  obtain ⟨n, hn⟩ : ∃ n, n = recs.length := ⟨_, rfl⟩
  rw [← hn] at H3 HXY ⊢
  have HN := Lib.hid hn
  have hn0 : (0 : Int) ≤ (n : Int) := by omega
  have hnb : n ≤ 9223372036854775807 := by have h1 := HXY.out.1.2.1; have h2 := HXY.out.1.2.2.1; unfold maxLen at h2; omega
  clear hn
  refine (SameLists_any _ _ _ _ _ _ recs recs w3 HXY.out.1 HXY.out.2).mono ?_
  rintro e w4 ⟨rfl, q8, hw8⟩
  rw [show (recs == recs) = true by simp]
  have hb34 : Below w3.heap.size w3 w4 := by rw [hw8]; exact below_drewN (Below.refl _ _) q8
  have H4 := Lib.hid (And.intro (@DSig.later (Zi w.heap.size hi) _ _ _ _ _ _ H3.out.1 hb34) (And.intro (@RSig.later (Zi w.heap.size hi) _ _ _ _ _ H3.out.2.1 hb34) (And.intro (H3.out.2.2.1.later hb34) (And.intro (H3.out.2.2.2.1.trans (hb34.mono (Nat.le_trans HA.out.hb H3.out.2.2.2.1.size))) ((hb34.block _ (heap_lt H3.out.2.2.2.2)).trans H3.out.2.2.2.2)))))
  have HB34 := Lib.hid hb34
  clear hw8 hb34
  go_wp2_with fail
  go_loopw [12] (fun i wr => ∃ j : Nat, j ≤ n ∧ i = .int .i64 j ∧ Hid (Loose wr w.heap.size hi n (.slice xa n xc) ∧ Ov w.heap.size hi w4 wr)) (fun i _ => n - (intOf i).toNat)
  case atStart => exact ⟨0, by omega, rfl, Lib.hid ⟨H4.out.2.2.1, Ov.refl _ _ _⟩⟩
  case round =>
    obtain ⟨j, hj, rfl, hI⟩ := hrel
    by_cases hlt : j < n
    · have hj0 : (0 : Int) ≤ (j : Int) := by omega
      have hj1 : (j : Int) < (n : Int) := by omega
      obtain ⟨vs, hv1, hv2, hv2b, hv3⟩ := hI.out.1
      obtain ⟨u, lu, hvu, hou, hus⟩ := hv3 j hlt
      obtain ⟨gb, rfl⟩ : ∃ gb, xa = some ⟨gb, 0, none⟩ := by
        rcases hv2.2 with ⟨e, e0⟩ | ⟨g9, cap9, cur9, e, _⟩
        · omega
        · injection e with e
          exact ⟨g9, e⟩
      have hcell := hv2.cells (g := gb) rfl j u hvu
      have hadd : (⟨gb, 0, none⟩ : Addr).add j = ⟨gb, 0 + j, none⟩ := by unfold Addr.add; split <;> simp_all
      rw [hadd, Nat.zero_add] at hcell
      obtain ⟨ua, uc, rfl⟩ := ownsRow_shape hou.1
      have HOU := Lib.hid (And.intro hou hus)
      have HVV := Lib.hid (And.intro hv1 (And.intro hv2 (And.intro hv2b hv3)))
      clear hv1 hv2 hv2b hv3 hvu hou hus hadd
      go_wp2_with fail
      refine (OverBytes_strong _ w.heap.size lu wr HOU.out.1).mono ?_
      rintro e w5 ⟨rfl, hg5, hall⟩
      have HREL := Lib.hid (And.intro (Loose.over HVV.out.1 HVV.out.2.1 HVV.out.2.2.1 HVV.out.2.2.2 HOU.out.1 hg5 hall) (hI.out.2.over HOU.out.1 HOU.out.2 hg5))
      clear hg5 hall
      go_wp2_with fail
      go_roundw
      case rel => exact ⟨j + 1, by omega, by go_num, HREL⟩
      case measure => simp [intOf]; omega
    · obtain rfl : j = n := by omega
      have HOv := Lib.hid hI.out.2
      clear hI
      go_wp2_with fail
      go_ret
      have hov := HOv.out
      have hrow : wr.heap[p]? = some (.cells #[.pointer (some ⟨d, 0, none⟩), .pointer (some ⟨r, 0, none⟩), .pointer none, .pointer none] 33 (0, 0)) := (hov.cells _ _ _ _ H4.out.2.2.2.2 (by decide)).trans H4.out.2.2.2.2
      have hbf : Below base w wr := H4.out.2.2.2.1.trans (hov.below HA.out.hb (Nat.le_trans HA.out.hb H4.out.2.2.2.1.size))
      exact ⟨rfl, ⟨g', none, _, _, hrow, HA.out.hp, hov.ds H4.out.1, hov.rs H4.out.2.1, HL.out.1, Nat.le_trans HA.out.hb hbf.size, .inl ⟨rfl, rfl, rfl⟩⟩, hbf⟩
set_option maxRecDepth 100000 in
set_option maxHeartbeats 2000000 in
theorem opens_some (nm : ByteArray) (hss : nm.size ≤ 1099511627776) (h : PairAt w p d mb r base q k g Lo lv mv) (hq : q + 2 ≤ 4294967296) (hk9 : k + 3 ≤ 100000) {L : LSig} (hLo : (openG nm g).2.1 = some L) :
    Calls Tryz.prog 10 #[.pointer (some ⟨p, 0, none⟩), .string nm] w fun e w' => PActR p d mb r base (q + 1) (k + 2) w e w' := by
  obtain ⟨a0, b0, rfl, rfl⟩ := h.ptrs
  obtain ⟨z, Lx, recs, g', hzg⟩ : ∃ z Lx recs g', openG nm g = (z, Lx, recs, g') := ⟨_, _, _, _, rfl⟩
  rw [hzg] at hLo
  dsimp only at hLo
  have hzL := congrArg (fun o => o.2.1) hzg
  dsimp only at hzL
  subst hLo
  have hlim := openG_lim (nm := nm) (q' := q + 1) (k' := k + 2) h.lim (Nat.le_refl _) (Nat.le_refl _)
  rw [hzg] at hlim
  dsimp only at hlim
  have HO := Lib.hid (Open_S nm hss base d mb q k g w h.hb h.ds h.lim (by omega) (by omega))
  have HRO := Lib.hid (fun (Z : Zone) (w' : World) (hb : base ≤ w'.heap.size) (hr : @RSig Z w' r base g) (hz : @ZW Z w') => @rOpen_S Z nm hss base r q k g w' hb hr hz h.lim h.fit (by omega) (by omega))
  rw [hzg] at HO HRO
  have HA := Lib.hid h
  have HL := Lib.hid hlim
  have HNM := Lib.hid hss
  have HZL := Lib.hid hzL
  clear hzL
  have hzz : (z == z) = true := by simp
  have p0 := h.cells.1
  clear h hlim hzg hss hq hk9
  go_enter Tryz.func10, Tryz.ntmps10
  go_wp2_with fail
  refine HO.out.mono ?_
  rintro e w1 ⟨hi, hh1, hh2, ⟨lv1, v1, rfl, hd1, hl1, hf1, hled⟩, hloose⟩
  have hlo1 := hloose _ _ _ rfl
  obtain ⟨xa, xc, rfl, _⟩ := hl1.reads
  dsimp only at hd1 hl1 hled hlo1
  obtain ⟨l, rfl, hlw, hrow1⟩ : ∃ l, lv1 = .pointer (some ⟨l, 0, none⟩) ∧ w.heap.size ≤ l ∧ LedRow w1 l d L.nm L.n L.size L.br := by
    rcases hled with ⟨h9, _⟩ | ⟨L9, l9, h9, h8, h7, h6⟩
    · cases h9
    · injection h9 with h9
      subst h9
      exact ⟨l9, h8, h7, h6⟩
  have hp1 : w1.heap[p]? = some (.cells #[.pointer (some ⟨d, 0, none⟩), .pointer (some ⟨r, 0, none⟩), .pointer a0, .pointer b0] 33 (0, 0)) := hf1.cells _ _ _ _ HA.out.row (by unfold TD; decide) (by simp)
  have hr1 : @RSig (Zi w.heap.size hi) w1 r base g := @RSig.fd (Zi w.heap.size hi) _ _ _ _ _ _ none (RSig.zi HA.out.rs) hf1 (fun j hj => by cases hj)
  have H1 := Lib.hid (And.intro hd1 (And.intro hl1 (And.intro hf1 (And.intro hlo1 (And.intro hp1 (And.intro hr1 (And.intro hh1 hh2)))))))
  have p1 : w1.cell? ⟨p, 1, none⟩ = some (.pointer (some ⟨r, 0, none⟩)) := cell_of_row _ _ _ _ _ _ hp1
  have HRW := Lib.hid (And.intro hlw hrow1)
  clear hlw hrow1
  clear hd1 hl1 hf1 hlo1 hp1 hr1 hled hloose p0 hh1 hh2
  go_wp2_with fail
  refine (HRO.out (Zi w.heap.size hi) w1 (Nat.le_trans HA.out.hb H1.out.2.2.1.below.size) H1.out.2.2.2.2.2.1 (fun k hk => Nat.lt_of_lt_of_le hk.2 H1.out.2.2.2.2.2.2.2)).mono ?_
  rintro e w2 ⟨mv1, v2, rfl, hr2, hl2, hf2, hled⟩
  obtain ⟨ya, yc, rfl, _⟩ := hl2.reads
  dsimp only at hr2 hl2 hled
  obtain ⟨m, rfl, hmw, hrow2⟩ : ∃ m, mv1 = .pointer (some ⟨m, 0, none⟩) ∧ w1.heap.size ≤ m ∧ RLedRow w2 m r L.nm L.n L.size L.br := by
    rcases hled with ⟨h9, _⟩ | ⟨L9, l9, h9, h8, h7, h6⟩
    · cases h9
    · injection h9 with h9
      subst h9
      exact ⟨l9, h8, h7, h6⟩
  have hp2 : w2.heap[p]? = some (.cells #[.pointer (some ⟨d, 0, none⟩), .pointer (some ⟨r, 0, none⟩), .pointer a0, .pointer b0] 33 (0, 0)) := hf2.cells _ _ _ _ H1.out.2.2.2.2.1 (by unfold TR; decide) (by simp)
  have hd2 : @DSig (Zi w.heap.size hi) w2 d mb base g' := @DSig.fr (Zi w.heap.size hi) _ _ _ _ _ _ _ none H1.out.1 hf2 (fun j hj => by cases hj)
  have hlx2 := hf2.lists H1.out.2.1
  have hlo2 := H1.out.2.2.2.1.fr hf2
  have z2 : w2.frozen? ⟨p, 2, none⟩ = false := frozen_of_row _ _ _ _ _ hp2
  have q2 := heap_setCell_same w2 p 2 _ _ (.pointer (some ⟨l, 0, none⟩)) hp2
  have q3 := heap_setCell_same _ p 3 _ _ (.pointer (some ⟨m, 0, none⟩)) q2
  have z3 : (w2.setCell ⟨p, 2, none⟩ (.pointer (some ⟨l, 0, none⟩))).frozen? ⟨p, 3, none⟩ = false := frozen_of_row _ _ _ _ _ q2
  have cz2 : w2.cell? ⟨p, 2, none⟩ = some (.pointer a0) := cell_of_row _ _ _ _ _ _ hp2
  have cz3 : (w2.setCell ⟨p, 2, none⟩ (.pointer (some ⟨l, 0, none⟩))).cell? ⟨p, 3, none⟩ = some (.pointer b0) := cell_of_row _ _ _ _ _ _ q2
  have hbp := HA.out.hp
  have hd3 : @DSig (Zi w.heap.size hi) ((w2.setCell ⟨p, 2, none⟩ (.pointer (some ⟨l, 0, none⟩))).setCell ⟨p, 3, none⟩ (.pointer (some ⟨m, 0, none⟩))) d mb base g' := @DSig.fd (Zi w.heap.size hi) _ _ _ _ base _ _ _ _ _ _ _ (@DSig.fd (Zi w.heap.size hi) _ _ _ _ base _ _ _ _ _ _ _ hd2 hp2 (by simp [plainV]) (by unfold TD; decide) hbp) q2 (by simp [plainV]) (by unfold TD; decide) hbp
  have hr3 : @RSig (Zi w.heap.size hi) ((w2.setCell ⟨p, 2, none⟩ (.pointer (some ⟨l, 0, none⟩))).setCell ⟨p, 3, none⟩ (.pointer (some ⟨m, 0, none⟩))) r base g' := @RSig.fr (Zi w.heap.size hi) _ _ _ _ _ _ _ _ _ _ (@RSig.fr (Zi w.heap.size hi) _ _ _ _ _ _ _ _ _ _ hr2 hp2 (by simp [plainV]) ⟨by unfold TR; decide, by decide⟩) q2 (by simp [plainV]) ⟨by unfold TR; decide, by decide⟩
  have hf3 : FR base (some p) w2 ((w2.setCell ⟨p, 2, none⟩ (.pointer (some ⟨l, 0, none⟩))).setCell ⟨p, 3, none⟩ (.pointer (some ⟨m, 0, none⟩))) := (FR.setCell hp2 (by simp [plainV]) hbp _).trans (FR.setCell q2 (by simp [plainV]) hbp _)
  have hlx3 : Lists ((w2.setCell ⟨p, 2, none⟩ (.pointer (some ⟨l, 0, none⟩))).setCell ⟨p, 3, none⟩ (.pointer (some ⟨m, 0, none⟩))) w.heap.size (.slice xa recs.length xc) recs := (hlx2.setCell hp2 (by decide) (by decide)).setCell q2 (by decide) (by decide)
  have hly3 : Lists ((w2.setCell ⟨p, 2, none⟩ (.pointer (some ⟨l, 0, none⟩))).setCell ⟨p, 3, none⟩ (.pointer (some ⟨m, 0, none⟩))) w1.heap.size (.slice ya recs.length yc) recs := (hl2.setCell hp2 (by decide) (by decide)).setCell q2 (by decide) (by decide)
  have hlo3 : Loose ((w2.setCell ⟨p, 2, none⟩ (.pointer (some ⟨l, 0, none⟩))).setCell ⟨p, 3, none⟩ (.pointer (some ⟨m, 0, none⟩))) w.heap.size hi recs.length (.slice xa recs.length xc) := (hlo2.setP hp2 (by decide) (by decide)).setP q2 (by decide) (by decide)
  have hlw2 : LedRow w2 l d L.nm L.n L.size L.br := hf2.cells _ _ _ _ HRW.out.2 (by unfold TR; decide) (by simp)
  have hlw3 : LedRow ((w2.setCell ⟨p, 2, none⟩ (.pointer (some ⟨l, 0, none⟩))).setCell ⟨p, 3, none⟩ (.pointer (some ⟨m, 0, none⟩))) l d L.nm L.n L.size L.br := hf3.cells _ _ _ _ hlw2 (by unfold TR; decide) (ne_of_types hp2 hlw2 (by decide))
  have hmw3 : RLedRow ((w2.setCell ⟨p, 2, none⟩ (.pointer (some ⟨l, 0, none⟩))).setCell ⟨p, 3, none⟩ (.pointer (some ⟨m, 0, none⟩))) m r L.nm L.n L.size L.br := hf3.cells _ _ _ _ hrow2 (by unfold TR; decide) (ne_of_types hp2 hrow2 (by decide))
  have HRW3 := Lib.hid (And.intro hlw3 (And.intro hmw3 (And.intro (Nat.le_trans HA.out.hb HRW.out.1) (Nat.le_trans HA.out.hb (Nat.le_trans H1.out.2.2.1.below.size hmw)))))
  clear hlw2 hlw3 hmw3 hmw hrow2
  have hbb3 : Below base w ((w2.setCell ⟨p, 2, none⟩ (.pointer (some ⟨l, 0, none⟩))).setCell ⟨p, 3, none⟩ (.pointer (some ⟨m, 0, none⟩))) := (H1.out.2.2.1.below.trans hf2.below).trans hf3.below
  clear hf2 hled hp2 hd2 hlx2 hlo2 hr2 hl2 q2 hbp p1 hf3
  go_wp2_with fail
  generalize ((w2.setCell ⟨p, 2, none⟩ (.pointer (some ⟨l, 0, none⟩))).setCell ⟨p, 3, none⟩ (.pointer (some ⟨m, 0, none⟩))) = w3 at hd3 hr3 hlx3 hly3 hlo3 hbb3 q3 HRW3 ⊢
  clear z2 z3 cz2 cz3
  have H3 := Lib.hid (And.intro hd3 (And.intro hr3 (And.intro hlo3 (And.intro hbb3 q3))))
  obtain ⟨xa2, xc2, ex, hxr⟩ := hlx3.reads
  obtain ⟨ya2, yc2, ey, hyr⟩ := hly3.reads
  injection ex with ex1 _ ex3
  injection ey with ey1 _ ey3
  subst ex1 ex3 ey1 ey3
  have HXY := Lib.hid (And.intro hxr hyr)
  clear hd3 hr3 hlx3 hly3 hlo3 hbb3 q3 hxr hyr
  obtain ⟨n, hn⟩ : ∃ n, n = recs.length := ⟨_, rfl⟩
  rw [← hn] at H3 HXY ⊢
  have HN := Lib.hid hn
  have hn0 : (0 : Int) ≤ (n : Int) := by omega
  have hnb : n ≤ 9223372036854775807 := by have h1 := HXY.out.1.2.1; have h2 := HXY.out.1.2.2.1; unfold maxLen at h2; omega
  clear hn
  refine (SameLists_any _ _ _ _ _ _ recs recs w3 HXY.out.1 HXY.out.2).mono ?_
  rintro e w4 ⟨rfl, q8, hw8⟩
  rw [show (recs == recs) = true by simp]
  have hb34 : Below w3.heap.size w3 w4 := by rw [hw8]; exact below_drewN (Below.refl _ _) q8
  have H4 := Lib.hid (And.intro (@DSig.later (Zi w.heap.size hi) _ _ _ _ _ _ H3.out.1 hb34) (And.intro (@RSig.later (Zi w.heap.size hi) _ _ _ _ _ H3.out.2.1 hb34) (And.intro (H3.out.2.2.1.later hb34) (And.intro (H3.out.2.2.2.1.trans (hb34.mono (Nat.le_trans HA.out.hb H3.out.2.2.2.1.size))) ((hb34.block _ (heap_lt H3.out.2.2.2.2)).trans H3.out.2.2.2.2)))))
  have HB34 := Lib.hid hb34
  clear hw8 hb34
  go_wp2_with fail
  go_loopw [12] (fun i wr => ∃ j : Nat, j ≤ n ∧ i = .int .i64 j ∧ Hid (Loose wr w.heap.size hi n (.slice xa n xc) ∧ Ov w.heap.size hi w4 wr)) (fun i _ => n - (intOf i).toNat)
  case atStart => exact ⟨0, by omega, rfl, Lib.hid ⟨H4.out.2.2.1, Ov.refl _ _ _⟩⟩
  case round =>
    obtain ⟨j, hj, rfl, hI⟩ := hrel
    by_cases hlt : j < n
    · have hj0 : (0 : Int) ≤ (j : Int) := by omega
      have hj1 : (j : Int) < (n : Int) := by omega
      obtain ⟨vs, hv1, hv2, hv2b, hv3⟩ := hI.out.1
      obtain ⟨u, lu, hvu, hou, hus⟩ := hv3 j hlt
      obtain ⟨gb, rfl⟩ : ∃ gb, xa = some ⟨gb, 0, none⟩ := by
        rcases hv2.2 with ⟨e, e0⟩ | ⟨g9, cap9, cur9, e, _⟩
        · omega
        · injection e with e
          exact ⟨g9, e⟩
      have hcell := hv2.cells (g := gb) rfl j u hvu
      have hadd : (⟨gb, 0, none⟩ : Addr).add j = ⟨gb, 0 + j, none⟩ := by unfold Addr.add; split <;> simp_all
      rw [hadd, Nat.zero_add] at hcell
      obtain ⟨ua, uc, rfl⟩ := ownsRow_shape hou.1
      have HOU := Lib.hid (And.intro hou hus)
      have HVV := Lib.hid (And.intro hv1 (And.intro hv2 (And.intro hv2b hv3)))
      clear hv1 hv2 hv2b hv3 hvu hou hus hadd
      go_wp2_with fail
      refine (OverBytes_strong _ w.heap.size lu wr HOU.out.1).mono ?_
      rintro e w5 ⟨rfl, hg5, hall⟩
      have HREL := Lib.hid (And.intro (Loose.over HVV.out.1 HVV.out.2.1 HVV.out.2.2.1 HVV.out.2.2.2 HOU.out.1 hg5 hall) (hI.out.2.over HOU.out.1 HOU.out.2 hg5))
      clear hg5 hall
      go_wp2_with fail
      go_roundw
      case rel => exact ⟨j + 1, by omega, by go_num, HREL⟩
      case measure => simp [intOf]; omega
    · obtain rfl : j = n := by omega
      have HOv := Lib.hid hI.out.2
      clear hI
      go_wp2_with fail
      go_ret
      have hov := HOv.out
      have hrow : wr.heap[p]? = some (.cells #[.pointer (some ⟨d, 0, none⟩), .pointer (some ⟨r, 0, none⟩), .pointer (some ⟨l, 0, none⟩), .pointer (some ⟨m, 0, none⟩)] 33 (0, 0)) := (hov.cells _ _ _ _ H4.out.2.2.2.2 (by decide)).trans H4.out.2.2.2.2
      have hbf : Below base w wr := H4.out.2.2.2.1.trans (hov.below HA.out.hb (Nat.le_trans HA.out.hb H4.out.2.2.2.1.size))
      have hla : LedRow w4 l d L.nm L.n L.size L.br := (HB34.out.block _ (heap_lt HRW3.out.1)).trans HRW3.out.1
      have hma : RLedRow w4 m r L.nm L.n L.size L.br := (HB34.out.block _ (heap_lt HRW3.out.2.1)).trans HRW3.out.2.1
      exact ⟨rfl, ⟨g', some L, _, _, hrow, HA.out.hp, hov.ds H4.out.1, hov.rs H4.out.2.1, HL.out.1, Nat.le_trans HA.out.hb hbf.size, .inr ⟨L, l, m, rfl, rfl, rfl, HRW3.out.2.2.1, HRW3.out.2.2.2, (hov.cells _ _ _ _ hla (by decide)).trans hla, (hov.cells _ _ _ _ hma (by decide)).trans hma, HL.out.2 L rfl, by rw [openG_nm HZL.out]; exact HNM.out⟩⟩, hbf⟩
end
end Go.Proofs.YtjkkfjmloleedaaGreat
