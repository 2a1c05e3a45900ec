/- the reference's calls, each against what it makes of what both disks hold -/
import Derived.Test.YtjkkfjmloleedaaGreatBoth2
import Derived.Test.YtjkkfjmloleedaaGreatRow3
import Derived.Test.YtjkkfjmloleedaaGreatDBad
import Derived.Defers
namespace Go.Proofs.YtjkkfjmloleedaaGreat
open Go.RowKit
set_option linter.unusedSectionVars false
variable [Zone]
theorem rdone {r base : Nat} {g : Sig} {R' : List FileV} {w w' : World} {e : Ending} (ho : g.out = false) (h : RDone r base g.R R' g.N g.fz g.lf w e w') : e = .returned (.int .i64 (doneG g R').1) ∧ RSig w' r base (doneG g R').2 ∧ MovedR r base w w' := by
  obtain ⟨hm, ⟨hc, rfl, h⟩ | ⟨hc, rfl, h⟩⟩ := h
  · unfold doneG
    rw [if_pos hc]
    exact ⟨rfl, h, hm⟩
  · unfold doneG
    rw [if_neg hc]
    exact ⟨rfl, h, hm⟩
theorem RSig.refused {w w' : World} {r base : Nat} {g : Sig} (h : RSig w r base g) (hw : Below w.heap.size w w') : RSig w' r base g ∧ MovedR r base w w' := by
  obtain ⟨h1, h2, h3⟩ := RefAt.grown h hw
  exact ⟨h3, .of_below hw h1 h2⟩
/-- what the reference's calls want. -/
structure RIn (q k : Nat) (g : Sig) : Prop where
  lim : Lim q k g
  hq : q ≤ 4294967296
  hk : k ≤ 100000
  fit : ∀ x ∈ g.R, FitF x
  few : g.R.length ≤ 16
theorem fit0 : FitF f0 := by unfold FitF f0; exact ⟨trivial, by simp [unitsD]⟩
theorem RIn.get {q k : Nat} {g : Sig} (h : RIn q k g) (i : Nat) : FitF (g.R.getD i f0) ∧ (g.R.getD i f0).2.2.length ≤ 100000 := by
  have h2 := (h.lim.get i).2
  have hk := h.hk
  refine ⟨?_, by omega⟩
  by_cases hi : i < g.R.length
  · exact h.fit _ (getD_mem' hi)
  · rw [List.getD_eq_getElem?_getD, List.getElem?_eq_none (by omega)]
    exact fit0
theorem rAppend_S (s : ByteArray) (hss : s.size ≤ 1099511627776) (r base q k : Nat) (g : Sig) (ao : Option Addr) (n cap : Nat) (B : List UInt8) (w : World) (h : RSig w r base g) (hl : RIn q k g) (hz : ZW w) (hB : IsBytes w ao n cap B) (hBK : ∀ w1 w2, Below w.heap.size w w1 → MovedR r base w1 w2 → IsBytes w2 ao n cap B) (hBn : n ≤ 17592186044416) :
    Calls Tryz.prog 21 #[.pointer (some ⟨r, 0, none⟩), .string s, .slice ao n cap] w fun e w' => e = .returned (.int .i64 (appG s B g).1) ∧ RSig w' r base (appG s B g).2 ∧ MovedR r base w w' := by
  have hN0 := hl.lim.n0
  have hN1 := hl.lim.n1
  have hk := hl.hk
  rcases atZ_is s g.R with ⟨i, hi, hil, his, hib⟩ | ⟨hi, hno⟩
  · refine (rAppend_old s hss ao n cap B i r base g.R g.N g.fz g.lf g.out w hN0 (by omega) hl.lim.l0 hl.lim.l1 hz h (fun j _ => ⟨(hl.get j).1, by have := (hl.get j).2; omega⟩) hB hBK hBn hil his hib).mono ?_
    rintro e w' he
    unfold appG
    rw [hi, if_neg (by omega : ¬ ((i : Int) < 0)), Int.toNat_natCast]
    rcases he with ⟨ho, rfl, rfl⟩ | ⟨ho, ⟨hn, rfl, rfl⟩ | ⟨hn, ⟨hlong, rfl, hw⟩ | ⟨hlong, hd⟩⟩⟩
    · rw [if_pos ho]
      exact ⟨rfl, h, .refl _ _ _⟩
    · rw [if_neg (by rw [ho]; simp), if_pos hn]
      exact ⟨rfl, h, .refl _ _ _⟩
    · rw [if_neg (by rw [ho]; simp), if_neg (by rw [hn]; simp), if_pos hlong]
      exact ⟨rfl, h.refused hw⟩
    · rw [if_neg (by rw [ho]; simp), if_neg (by rw [hn]; simp), if_neg (by omega)]
      exact rdone ho hd
  · refine (rAppend_new s hss ao n cap B r base g.R g.N g.fz g.lf g.out w hN0 (by omega) hl.lim.l0 hl.lim.l1 hz h hB hBK hBn hno).mono ?_
    rintro e w' he
    unfold appG
    rw [hi, if_pos (by omega : ((-1 : Int) < 0))]
    rcases he with ⟨ho, rfl, rfl⟩ | ⟨ho, ⟨hn, rfl, rfl⟩ | ⟨hn, ⟨h16, rfl, rfl⟩ | ⟨h16, ⟨hlong, rfl, rfl⟩ | ⟨hlong, j, hj, hd⟩⟩⟩⟩
    · rw [if_pos ho]
      exact ⟨rfl, h, .refl _ _ _⟩
    · rw [if_neg (by rw [ho]; simp), if_pos hn]
      exact ⟨rfl, h, .refl _ _ _⟩
    · rw [if_neg (by rw [ho]; simp), if_neg (by rw [hn]; simp), if_pos h16]
      exact ⟨rfl, h, .refl _ _ _⟩
    · rw [if_neg (by rw [ho]; simp), if_neg (by rw [hn]; simp), if_neg (by omega), if_pos hlong]
      exact ⟨rfl, h, .refl _ _ _⟩
    · rw [if_neg (by rw [ho]; simp), if_neg (by rw [hn]; simp), if_neg (by omega), if_neg (by omega), ← hj.eq]
      exact rdone ho hd
theorem rCut_S (s : ByteArray) (sz : Int) (r base q k : Nat) (g : Sig) (w : World) (h : RSig w r base g) (hl : RIn q k g) :
    Calls Tryz.prog 23 #[.pointer (some ⟨r, 0, none⟩), .string s, .int .i64 sz] w fun e w' => e = .returned (.int .i64 (cutG s sz g).1) ∧ RSig w' r base (cutG s sz g).2 ∧ MovedR r base w w' := by
  have hN0 := hl.lim.n0
  have hN1 := hl.lim.n1
  have hk := hl.hk
  refine (rCut_any s sz r base g.R g.N g.fz g.lf g.out w hN0 (by omega) hl.lim.l0 hl.lim.l1 h (fun j _ => ⟨(hl.get j).1, by have := (hl.get j).2; omega⟩)).mono ?_
  rintro e w' he
  unfold cutG
  rcases he with ⟨ho, rfl, rfl⟩ | ⟨ho, z, hz, he⟩
  · rw [if_pos ho]
    exact ⟨rfl, h, .refl _ _ _⟩
  · rw [if_neg (by rw [ho]; simp), ← hz.eq]
    rcases he with ⟨hneg, rfl, rfl⟩ | ⟨hneg, ⟨hs, rfl, hw⟩ | ⟨hs, hd⟩⟩
    · rw [if_pos hneg]
      exact ⟨rfl, h, .refl _ _ _⟩
    · rw [if_neg (by omega), if_pos hs]
      exact ⟨rfl, h.refused hw⟩
    · rw [if_neg (by omega), if_neg (by omega)]
      exact rdone ho hd
theorem rSync_S (s : ByteArray) (r base q k : Nat) (g : Sig) (w : World) (h : RSig w r base g) (hl : RIn q k g) (hzw : ZW w) :
    Calls Tryz.prog 25 #[.pointer (some ⟨r, 0, none⟩), .string s] w fun e w' => e = .returned (.int .i64 (syncG s g).1) ∧ RSig w' r base (syncG s g).2 ∧ MovedR r base w w' := by
  have hN0 := hl.lim.n0
  have hN1 := hl.lim.n1
  have hk := hl.hk
  refine (rSync_any s r base g.R g.N g.fz g.lf g.out w hN0 (by omega) hl.lim.l0 hl.lim.l1 hzw h (fun j _ => (hl.get j).1)).mono ?_
  rintro e w' he
  unfold syncG
  rcases he with ⟨ho, rfl, rfl⟩ | ⟨ho, z, hz, he⟩
  · rw [if_pos ho]
    exact ⟨rfl, h, .refl _ _ _⟩
  · rw [if_neg (by rw [ho]; simp), ← hz.eq]
    rcases he with ⟨hneg, rfl, rfl⟩ | ⟨hneg, hd⟩
    · rw [if_pos hneg]
      exact ⟨rfl, h, .refl _ _ _⟩
    · rw [if_neg (by omega)]
      exact rdone ho hd
theorem rRemove_S (s : ByteArray) (r base q k : Nat) (g : Sig) (w : World) (h : RSig w r base g) (hl : RIn q k g) :
    Calls Tryz.prog 27 #[.pointer (some ⟨r, 0, none⟩), .string s] w fun e w' => e = .returned (.int .i64 (remG s g).1) ∧ RSig w' r base (remG s g).2 ∧ MovedR r base w w' := by
  have hN0 := hl.lim.n0
  have hN1 := hl.lim.n1
  have hk := hl.hk
  have hf := hl.few
  refine (rRemove_any s r base g.R g.N g.fz g.lf g.out w hN0 (by omega) hl.lim.l0 hl.lim.l1 h (by omega)).mono ?_
  rintro e w' he
  unfold remG
  rcases he with ⟨ho, rfl, rfl⟩ | ⟨ho, z, hz, he⟩
  · rw [if_pos ho]
    exact ⟨rfl, h, .refl _ _ _⟩
  · rw [if_neg (by rw [ho]; simp), ← hz.eq]
    rcases he with ⟨hneg, rfl, rfl⟩ | ⟨hneg, hd⟩
    · rw [if_pos hneg]
      exact ⟨rfl, h, .refl _ _ _⟩
    · rw [if_neg (by omega)]
      exact rdone ho hd
theorem rFuse_S (n : Int) (r base : Nat) (g : Sig) (w : World) (h : RSig w r base g) :
    Calls Tryz.prog 17 #[.pointer (some ⟨r, 0, none⟩), .int .i64 n] w fun e w' => e = .returned (.int .i64 (fuseG n g).1) ∧ RSig w' r base (fuseG n g).2 ∧ MovedR r base w w' := by
  refine (rFuse_any r base g.R g.N g.fz g.lf n g.out w h).mono ?_
  rintro e w' ⟨hm, ⟨h1, rfl, h2⟩ | ⟨h1, rfl, h2⟩⟩
  · unfold fuseG
    rw [if_pos h1]
    exact ⟨rfl, h2, hm⟩
  · unfold fuseG
    rw [if_neg (by omega)]
    exact ⟨rfl, h2, hm⟩
theorem rCrash_S (r base q k : Nat) (g : Sig) (ao : Option Addr) (kn kc : Nat) (K : List Int) (w : World) (hzw : ZW w) (h : RSig w r base g) (hl : RIn q k g) (hbase : base ≤ w.heap.size)
    (hKl : K.length = kn) (hkc : kn ≤ kc ∧ kc ≤ maxLen) (hK : ∀ w', MovedR r base w w' → ∀ i, i < kn → ∃ b off x, ao = some ⟨b, off, none⟩ ∧ w'.cell? ⟨b, off + i, none⟩ = some (.int .i64 x) ∧ K.getD i 0 = x ∧ -9223372036854775808 ≤ x ∧ x ≤ 9223372036854775807) :
    Calls Tryz.prog 19 #[.pointer (some ⟨r, 0, none⟩), .slice ao kn kc] w fun e w' => e = .returned (.int .i64 (crashG K g).1) ∧ RSig w' r base (crashG K g).2 ∧ MovedR r base w w' := by
  refine (rCrash_any r base g.R g.N g.fz g.lf g.out ao kn kc K w hzw h (fun j _ => hl.get j) hbase hKl hkc hK).mono ?_
  rintro e w' ⟨rfl, ⟨L, h1, h2⟩, hm⟩
  rw [h2.eq] at h1
  exact ⟨rfl, h1, hm⟩
theorem rRead_S (s : ByteArray) (r base q k : Nat) (g : Sig) (w : World) (h : RSig w r base g) (hl : RIn q k g) :
    Calls Tryz.prog 34 #[.pointer (some ⟨r, 0, none⟩), .string s] w fun e w' => ∃ v, e = .returned (.tuple #[v, .int .i64 (readG s g).1]) ∧ OwnB w' w.heap.size v (readG s g).2 ∧ Below w.heap.size w w' := by
  refine (rRead_any s r base g.R g.N g.fz g.lf g.out w h (fun j _ => (hl.get j).1)).mono ?_
  rintro e w' ⟨z, hz, ⟨v, c, rfl, he⟩, hw⟩
  unfold readG
  rw [← hz.eq]
  rcases he with ⟨ho, rfl, rfl⟩ | ⟨ho, hneg, rfl, rfl⟩ | ⟨ho, hneg, rfl, hv⟩
  · rw [if_pos ho]
    exact ⟨_, rfl, OwnB.nil _ _, hw⟩
  · rw [if_neg (by rw [ho]; simp), if_pos hneg]
    exact ⟨_, rfl, OwnB.nil _ _, hw⟩
  · rw [if_neg (by rw [ho]; simp), if_neg (by omega)]
    exact ⟨_, rfl, hv, hw⟩
theorem rLoose_S (s : ByteArray) (r base q k : Nat) (g : Sig) (w : World) (h : RSig w r base g) (hl : RIn q k g) :
    Calls Tryz.prog 37 #[.pointer (some ⟨r, 0, none⟩), .string s] w fun e w' => e = .returned (.int .i64 (looseG s g)) ∧ Below w.heap.size w w' := by
  refine (rLoose_any s r base g.R g.N g.fz g.lf g.out w h (fun j _ => (hl.get j).1)).mono ?_
  rintro e w' ⟨z, hz, rfl, hw⟩
  unfold looseG
  rw [← hz.eq]
  exact ⟨rfl, hw⟩
theorem rNames_S (r base q k : Nat) (g : Sig) (w : World) (h : RSig w r base g) (hl : RIn q k g) :
    Calls Tryz.prog 28 #[.pointer (some ⟨r, 0, none⟩)] w fun e w' => ∃ v, e = .returned v ∧ OwnT w' w.heap.size v (g.R.map (·.1)) ∧ Below w.heap.size w w' :=
  rNames_any r base g.R g.N g.fz g.lf g.out w (by have := hl.few; omega) h
end Go.Proofs.YtjkkfjmloleedaaGreat

/- disk: another block in which none of its bytes lie; CopyBytes -/
namespace Go.Proofs.YtjkkfjmloleedaaGreat
open Go.RowKit
theorem IsBytes.at_block {w w' : World} {ao : Option Addr} {n cap : Nat} {l : List UInt8} (h : IsBytes w ao n cap l) (hb : 0 < n → ∀ ad, ao = some ad → w'.heap[ad.block]? = w.heap[ad.block]?) : IsBytes w' ao n cap l := by
  obtain ⟨h1, h2, h3, h4, h5⟩ := h
  refine ⟨h1, h2, h3, fun hl => ?_, h5⟩
  obtain ⟨b, off, rfl, hc⟩ := h4 hl
  have hn : 0 < n := by
    cases l with
    | nil => exact absurd rfl hl
    | cons a l => simp at h1; omega
  refine ⟨b, off, rfl, fun i hi => ?_⟩
  have hbb : w'.heap[b]? = w.heap[b]? := hb hn _ rfl
  exact (World.cell?_of_block (a := ⟨b, off + i, none⟩) hbb).trans (hc i hi)
theorem IsBytes.block_lt {w : World} {ad : Addr} {n cap : Nat} {l : List UInt8} (h : IsBytes w (some ad) n cap l) (hn : 0 < n) : ad.block < w.heap.size := by
  obtain ⟨h1, h2, h3, h4, h5⟩ := h
  have hl : l ≠ [] := by rintro rfl; simp at h1; omega
  obtain ⟨b, off, e, hc⟩ := h4 hl
  injection e with e
  rw [e]
  exact hc.lt hl
theorem FileOwn.rezone {Z1 Z2 : Zone} {w w' : World} {f base : Nat} {S : List UInt8} {D : List Deed} (h : @FileOwn Z1 w f base S D) (hbl : ∀ j, j < w.heap.size → ¬ Z1.g j → w'.heap[j]? = w.heap[j]?) (hcell : ∀ (j : Nat) (c : Array Value) (t : TypeId) (fr : Nat × Nat), w.heap[j]? = some (.cells c t fr) → t ≠ 5 → w'.heap[j]? = w.heap[j]?)
    (hz : ∀ k, Z2.g k → Z1.g k ∨ w.heap.size ≤ k) : @FileOwn Z2 w' f base S D ∧ Go.Proofs.YtjkkfjmloleedaaGreat.rowOf w' f = Go.Proofs.YtjkkfjmloleedaaGreat.rowOf w f := by
  obtain ⟨⟨ao, n, cap, lv, hr, hs, xs, ho, ha, hi⟩, q1, q2⟩ := h
  have hfs : w'.heap[f]? = w.heap[f]? := hcell _ _ _ _ hr (by decide)
  have hbytes : ∀ {a : Option Addr} {m c : Nat} {l : List UInt8}, IsBytes w a m c l → @ZS Z1 a m → IsBytes w' a m c l ∧ @ZS Z2 a m := by
    intro a m c l hb hzs
    refine ⟨hb.at_block (fun hm ad e => ?_), fun hm ad e hk => ?_⟩
    · subst e
      exact hbl _ (hb.block_lt hm) (hzs hm ad rfl)
    · subst e
      rcases hz _ hk with r | r
      · exact hzs hm ad rfl r
      · have := hb.block_lt hm
        omega
  obtain ⟨hs1, hs2⟩ := hbytes hs.1 hs.2
  refine ⟨⟨⟨ao, n, cap, lv, hfs.trans hr, ⟨hs1, hs2⟩, xs, ownsRow_move ho (fun g hg => ?_), ha.move (fun g hg => ?_), fun i hlt => ?_⟩, q1, q2⟩, rowOf_same hfs⟩
  · rcases ho.2 with ⟨rfl, _⟩ | ⟨g', cap', cur, rfl, _, hg', _⟩
    · simp [Value.ownBlock] at hg
    · simp only [Value.ownBlock, Option.some.injEq] at hg
      subst hg
      exact hcell _ _ _ _ hg' (by decide)
  · rcases ho.2 with ⟨rfl, _⟩ | ⟨g', cap', cur, rfl, _, hg', _⟩
    · simp [Value.ownBlock] at hg
    · simp only [Value.ownBlock, Option.some.injEq] at hg
      subst hg
      exact hcell _ _ _ _ hg' (by decide)
  · obtain ⟨u, hu, hd, hzv⟩ := hi i hlt
    cases hx : D.getD i (.cut 0) with
    | more b =>
      rw [hx] at hd
      obtain ⟨a, m, c, rfl, hb⟩ := hd
      cases a with
      | none =>
        refine ⟨_, hu, ⟨none, m, c, rfl, hb.at_block (fun _ ad e => by cases e)⟩, trivial⟩
      | some ad =>
        have hzs : @ZS Z1 (some ad) m := fun hm ad' e => by
          injection e with e
          subst e
          exact hzv hm
        obtain ⟨b1, b2⟩ := hbytes hb hzs
        exact ⟨_, hu, ⟨some ad, m, c, rfl, b1⟩, fun hm => b2 hm ad rfl⟩
    | cut z =>
      rw [hx] at hd
      obtain rfl := hd
      exact ⟨_, hu, rfl, trivial⟩
theorem DiskG.rezone {Z1 Z2 : Zone} {w w' : World} {st fu : Int} {out : Bool} {d mb base : Nat} {M : List Ent} {C : Cont} (h : @DiskG Z1 w st fu out d mb base M C) (_hsz : w.heap.size ≤ w'.heap.size) (hbl : ∀ j, j < w.heap.size → ¬ Z1.g j → w'.heap[j]? = w.heap[j]?) (hcell : ∀ (j : Nat) (c : Array Value) (t : TypeId) (fr : Nat × Nat), w.heap[j]? = some (.cells c t fr) → t ≠ 5 → w'.heap[j]? = w.heap[j]?) (hmap : ∀ (j : Nat) (es : Array MapEntry) (c : Nat), w.heap[j]? = some (.map es c) → w'.heap[j]? = w.heap[j]?)
    (hz : ∀ k, Z2.g k → (Z1.g k ∨ w.heap.size ≤ k) ∧ k < w'.heap.size) : @DiskG Z2 w' st fu out d mb base M C := by
  have pdm := @DiskG.dm Z1 _ _ _ _ _ _ _ _ _ h
  have plow := @DiskG.low Z1 _ _ _ _ _ _ _ _ _ h
  have pown := @DiskG.own Z1 _ _ _ _ _ _ _ _ _ h
  have papart := @DiskG.apart Z1 _ _ _ _ _ _ _ _ _ h
  have prows := @DiskG.rows Z1 _ _ _ _ _ _ _ _ _ h
  have hd : DiskM w' st fu out d mb M := by
    obtain ⟨q1, q2, q3, c, q4, q5⟩ := pdm
    exact ⟨q1, q2, (hcell _ _ _ _ q3 (by decide)).trans q3, c, q4, (hmap _ _ _ q5).trans q5⟩
  have key : ∀ x ∈ M, @FileOwn Z2 w' x.2.1 base (C x.2.1).1 (C x.2.1).2 ∧ rowOf w' x.2.1 = rowOf w x.2.1 := fun x hx => FileOwn.rezone (Z1 := Z1) (Z2 := Z2) (pown x hx).2 hbl hcell (fun k hk => (hz k hk).1)
  refine @DiskG.mk Z2 _ _ _ _ _ _ _ _ _ hd plow  (fun x hx => ⟨(pown x hx).1, (key x hx).1⟩) papart (fun x hx y hy hne k hk => ?_) (fun k hk => (hz k hk).2)
  rw [(key x hx).2] at hk
  rw [(key y hy).2]
  exact prows x hx y hy hne k hk
/-- own bytes stay where a disk does something. -/
theorem OwnB.keptD {d mb base b2 : Nat} {w w' : World} {st fu : Int} {out : Bool} {es : Array MapEntry} {cl : Nat} {v : Value} {l : List UInt8} (h : OwnB w b2 v l) (k : Kept d mb base w w') (hd : DiskRow w d mb st fu out) (hm : w.heap[mb]? = some (.map es cl)) : OwnB w' b2 v l := by
  refine h.move (fun g hg => ?_)
  rcases h.1.2 with ⟨rfl, _⟩ | ⟨g', cap', cur, rfl, _, hg', _⟩
  · simp [Value.ownBlock] at hg
  · simp only [Value.ownBlock, Option.some.injEq] at hg
    subst hg
    exact k.cells hd hm hg' (by decide)
/-- own bytes' block. -/
theorem OwnB.typed {w : World} {base k : Nat} {v : Value} {l : List UInt8} (h : OwnB w base v l) (hk : v.ownBlock = some k) : ∃ c fr, w.heap[k]? = some (.cells c 5 fr) := by
  rcases h.1.2 with ⟨rfl, _⟩ | ⟨g', cap', cur, rfl, _, hg', _⟩
  · simp [Value.ownBlock] at hk
  · simp only [Value.ownBlock, Option.some.injEq] at hk
    subst hk
    exact ⟨_, _, hg'⟩
end Go.Proofs.YtjkkfjmloleedaaGreat

/- both disks side by side: what is done to the one leaves the other; another block apart -/
namespace Go.Proofs.YtjkkfjmloleedaaGreat
open Go.RowKit
set_option linter.unusedSectionVars false
theorem RefAt.typed [Zone] {w : World} {r base : Nat} {R : List FileV} {N lf : Int} {fz out : Bool} (h : RefAt w r base R N fz lf out) {j : Nat} (hj : j = r ∨ listOf w r = some j) : Plain w j ∧ ∃ c t fr, w.heap[j]? = some (.cells c t fr) ∧ (t = 29 ∨ t = 86) := by
  rcases hj with rfl | hj
  · obtain ⟨_, v, T, hr, hown, hf⟩ := h
    obtain ⟨a, cap, rfl, _⟩ := hown.is3
    exact ⟨plain_of_cells hr (by simp [plainV]), _, _, _, hr, .inl rfl⟩
  · obtain ⟨c, fr, hg, hp⟩ := h.listed hj
    refine ⟨?_, _, _, _, hg, .inr rfl⟩
    intro off v hc
    simp only [World.cell?, hg] at hc
    exact hp _ (Array.mem_of_getElem? hc)
theorem DSig.keptR [Zone] {w w' : World} {d mb base r base2 : Nat} {g g2 : Sig} (h : DSig w d mb base g) (hr : RSig w r base2 g2) (hm : MovedR r base2 w w') : DSig w' d mb base g := by
  obtain ⟨M, C, fu, h1, h2, h3⟩ := h
  obtain ⟨q1, q2, q3, c, q4, q5⟩ := h1.dm
  have hr : RefAt w r base2 g2.R g2.N g2.fz g2.lf g2.out := hr
  have hd : w'.heap[d]? = w.heap[d]? := hr.kept hm q3 (by decide) (by decide)
  have hmb : w'.heap[mb]? = w.heap[mb]? := hr.kept_map hm q5
  have hoth : ∀ y ∈ M, FileOwn w' y.2.1 base (C y.2.1).1 (C y.2.1).2 ∧ rowOf w' y.2.1 = rowOf w y.2.1 := fun y hy => by
    have hf := (h1.own y hy).2
    obtain ⟨cf, tf, hcf⟩ := hf.row
    have hne : ∀ (c : Array Value) (t t' : TypeId) (fr fr' : Nat × Nat) (c' : Array Value) (j : Nat), w.heap[j]? = some (.cells c t fr) → w.heap[j]? = some (.cells c' t' fr') → t = t' := fun c t t' fr fr' c' j a b => by
      rw [a] at b
      injection b with b
      injection b
    refine ⟨hf.moved (fun j => j = r ∨ listOf w r = some j) (fun j e => (hr.typed e).1) (fun e => ?_) (fun c t j e => ?_) (fun j hj hn => hm.block j hj (fun e => hn (.inl e)) (fun e => hn (.inr e))), rowOf_same (hr.kept hm hcf (by decide) (by decide))⟩
    · obtain ⟨_, c2, t2, fr2, e2, e3⟩ := hr.typed e
      have := hne _ _ _ _ _ _ _ hcf e2
      subst this
      rcases e3 with e3 | e3 <;> exact absurd e3 (by decide)
    · obtain ⟨_, c2, t2, fr2, e2, e3⟩ := hr.typed e
      intro e4
      have := hne _ _ _ _ _ _ _ e4 e2
      subst this
      rcases e3 with e3 | e3 <;> exact absurd e3 (by decide)
  refine ⟨M, C, fu, ⟨⟨q1, q2, hd.trans q3, c, q4, hmb.trans q5⟩, h1.low, fun x hx => ⟨(h1.own x hx).1, (hoth x hx).1⟩, h1.apart, fun x hx y hy hne k hk => ?_, h1.zone.mono hm.below.size⟩, h2, h3⟩
  rw [(hoth x hx).2] at hk
  rw [(hoth y hy).2]
  exact h1.rows x hx y hy hne k hk
theorem DSig.map [Zone] {w : World} {d mb base : Nat} {g : Sig} (h : DSig w d mb base g) : ∃ st fu out es c, DiskRow w d mb st fu out ∧ w.heap[mb]? = some (.map es c) := by
  obtain ⟨M, C, fu, h1, h2, h3⟩ := h
  obtain ⟨q1, q2, q3, c, q4, q5⟩ := h1.dm
  exact ⟨_, _, _, _, _, q3, q5⟩
theorem Kept.u8s {d mb base : Nat} {w w' : World} {st fu : Int} {out : Bool} {es : Array MapEntry} {cl : Nat} (h : Kept d mb base w w') (hd : DiskRow w d mb st fu out) (hm : w.heap[mb]? = some (.map es cl)) {j off : Nat} {v : Int} (hc : w.cell? ⟨j, off, none⟩ = some (.int .u8 v)) : w'.heap[j]? = w.heap[j]? := by
  refine h.u8 j off v hc ?_ ?_
  · rintro rfl
    have := hd.plain _ _ hc
    simp [plainV] at this
  · rintro rfl
    have := map_plain hm _ _ hc
    simp [plainV] at this
theorem RSig.keptD [Zone] {w w' : World} {d mb base r base2 : Nat} {g g2 : Sig} (h : RSig w r base2 g) (hd : DSig w d mb base g2) (k : Kept d mb base w w') : RSig w' r base2 g := by
  obtain ⟨st, fu, out, es, c, q3, q5⟩ := hd.map
  obtain ⟨h0, v, T, h1, h2, h3⟩ := h
  refine ⟨h0, v, T, (k.cells q3 q5 h1 (by decide)).trans h1, h2.move (fun j hj => ?_), h3.moved (fun j off v hc => k.u8s q3 q5 hc) (fun j c fr hj => k.cells q3 q5 hj (by decide))⟩
  rcases h2.1.2 with ⟨rfl, _⟩ | ⟨g', cap', cur, rfl, _, hg', _⟩
  · simp [Value.ownBlock] at hj
  · simp only [Value.ownBlock, Option.some.injEq] at hj
    subst hj
    exact k.cells q3 q5 hg' (by decide)
/-- another block apart. -/
theorem IsBytesZ.rezone {Z1 Z2 : Zone} {w w' : World} {a : Option Addr} {m c : Nat} {l : List UInt8} (h : @IsBytesZ Z1 w a m c l) (hbl : ∀ j, j < w.heap.size → ¬ Z1.g j → w'.heap[j]? = w.heap[j]?) (hz : ∀ k, Z2.g k → Z1.g k ∨ w.heap.size ≤ k) : @IsBytesZ Z2 w' a m c l := by
  obtain ⟨hb, hzs⟩ := h
  refine ⟨hb.at_block (fun hm ad e => ?_), fun hm ad e hk => ?_⟩
  · subst e
    exact hbl _ (hb.block_lt hm) (hzs hm ad rfl)
  · subst e
    rcases hz _ hk with r | r
    · exact hzs hm ad rfl r
    · have := hb.block_lt hm
      omega
theorem RSig.rezone {Z1 Z2 : Zone} {w w' : World} {r base : Nat} {g : Sig} (h : @RSig Z1 w r base g) (hbl : ∀ j, j < w.heap.size → ¬ Z1.g j → w'.heap[j]? = w.heap[j]?) (hcell : ∀ (j : Nat) (c : Array Value) (t : TypeId) (fr : Nat × Nat), w.heap[j]? = some (.cells c t fr) → t ≠ 5 → w'.heap[j]? = w.heap[j]?)
    (hz : ∀ k, Z2.g k → Z1.g k ∨ w.heap.size ≤ k) : @RSig Z2 w' r base g := by
  obtain ⟨h0, v, T, h1, h2, h3, h4⟩ := h
  refine ⟨h0, v, T, (hcell _ _ _ _ h1 (by decide)).trans h1, h2.move (fun j hj => ?_), h3, fun i hi => ?_⟩
  · rcases h2.1.2 with ⟨rfl, _⟩ | ⟨g', cap', cur, rfl, _, hg', _⟩
    · simp [Value.ownBlock] at hj
    · simp only [Value.ownBlock, Option.some.injEq] at hj
      subst hj
      exact hcell _ _ _ _ hg' (by decide)
  · obtain ⟨e0, ⟨a, n, c, e, hb⟩, ⟨a2, n2, c2, e2, T2, hi3, hl2, ha⟩⟩ := h4 i hi
    refine ⟨e0, ⟨a, n, c, e, IsBytesZ.rezone (Z1 := Z1) (Z2 := Z2) hb hbl hz⟩, ⟨a2, n2, c2, e2, T2, hi3.move (fun j c fr hj => hcell _ _ _ _ hj (by decide)), hl2, fun i2 hi2 => ?_⟩⟩
    have := ha i2 hi2
    cases hd : ((g.R.getD i f0).2.2).getD i2 (.cut 0) with
    | more x =>
      rw [hd] at this
      obtain ⟨p0, p1, a3, n3, c3, e3, hb3⟩ := this
      exact ⟨p0, p1, a3, n3, c3, e3, IsBytesZ.rezone (Z1 := Z1) (Z2 := Z2) hb3 hbl hz⟩
    | cut z =>
      rw [hd] at this
      exact this
theorem DSig.rezone {Z1 Z2 : Zone} {w w' : World} {d mb base : Nat} {g : Sig} (h : @DSig Z1 w d mb base g) (hsz : w.heap.size ≤ w'.heap.size) (hbl : ∀ j, j < w.heap.size → ¬ Z1.g j → w'.heap[j]? = w.heap[j]?) (hcell : ∀ (j : Nat) (c : Array Value) (t : TypeId) (fr : Nat × Nat), w.heap[j]? = some (.cells c t fr) → t ≠ 5 → w'.heap[j]? = w.heap[j]?) (hmap : ∀ (j : Nat) (es : Array MapEntry) (c : Nat), w.heap[j]? = some (.map es c) → w'.heap[j]? = w.heap[j]?)
    (hz : ∀ k, Z2.g k → (Z1.g k ∨ w.heap.size ≤ k) ∧ k < w'.heap.size) : @DSig Z2 w' d mb base g := by
  obtain ⟨M, C, fu, h1, h2, h3⟩ := h
  exact ⟨M, C, fu, DiskG.rezone (Z1 := Z1) (Z2 := Z2) h1 hsz hbl hcell hmap hz, h2, h3⟩
end Go.Proofs.YtjkkfjmloleedaaGreat

/- ledger: none, Len, Size, Broken; what Add defers -/
namespace Go.Proofs.YtjkkfjmloleedaaGreat
open Go.RowKit
/-- a ledger's own cells. -/
def LedRow (w : World) (l d : Nat) (nm : ByteArray) (n sz : Int) (br : Bool) : Prop := w.heap[l]? = some (.cells #[.pointer (some ⟨d, 0, none⟩), .string nm, .int .i64 n, .int .i64 sz, .bool br] 80 (0, 0))
theorem LedRow.cells {w : World} {l d : Nat} {nm : ByteArray} {n sz : Int} {br : Bool} (h : LedRow w l d nm n sz br) :
    w.cell? ⟨l, 0, none⟩ = some (.pointer (some ⟨d, 0, none⟩)) ∧ w.cell? ⟨l, 1, none⟩ = some (.string nm) ∧ w.cell? ⟨l, 2, none⟩ = some (.int .i64 n) ∧ w.cell? ⟨l, 3, none⟩ = some (.int .i64 sz) ∧ w.cell? ⟨l, 4, none⟩ = some (.bool br) :=
  ⟨cell_of_row _ _ _ _ _ _ h, cell_of_row _ _ _ _ _ _ h, cell_of_row _ _ _ _ _ _ h, cell_of_row _ _ _ _ _ _ h, cell_of_row _ _ _ _ _ _ h⟩
theorem lnone_any (l d : Nat) (nm : ByteArray) (n sz : Int) (br : Bool) (w : World) (h : LedRow w l d nm n sz br) :
    Calls Tryz.prog 46 #[.pointer (some ⟨l, 0, none⟩)] w fun e w' => e = .returned (.bool false) ∧ w = w' := by
  obtain ⟨h0, h1, h2, h3, h4⟩ := h.cells
  clear h h1 h2 h3 h4
  go_enter Tryz.func46, Tryz.ntmps46
  go_wp2
  go_ret
  exact ⟨rfl, rfl⟩
theorem lnone_nil (w : World) : Calls Tryz.prog 46 #[.pointer none] w fun e w' => e = .returned (.bool true) ∧ w = w' := by
  go_enter Tryz.func46, Tryz.ntmps46
  go_wp2
  go_ret
  exact ⟨rfl, rfl⟩
theorem lnone_zero (l : Nat) (w : World) (h : w.cell? ⟨l, 0, none⟩ = some (.pointer none)) : Calls Tryz.prog 46 #[.pointer (some ⟨l, 0, none⟩)] w fun e w' => e = .returned (.bool true) ∧ w = w' := by
  go_enter Tryz.func46, Tryz.ntmps46
  go_wp2
  go_ret
  exact ⟨rfl, rfl⟩
theorem Len_any (l d : Nat) (nm : ByteArray) (n sz : Int) (br : Bool) (w : World) (h : LedRow w l d nm n sz br) :
    Calls Tryz.prog 38 #[.pointer (some ⟨l, 0, none⟩)] w fun e w' => e = .returned (.int .i64 n) ∧ w = w' := by
  obtain ⟨h0, h1, h2, h3, h4⟩ := h.cells
  have H := Lib.hid (lnone_any l d nm n sz br w h)
  clear h h0 h1 h3 h4
  go_enter Tryz.func38, Tryz.ntmps38
  go_wp2_with fail
  refine H.out.mono ?_
  rintro e w' ⟨rfl, rfl⟩
  go_wp2_with fail
  go_ret
  exact ⟨rfl, rfl⟩
theorem Size_any (l d : Nat) (nm : ByteArray) (n sz : Int) (br : Bool) (w : World) (h : LedRow w l d nm n sz br) :
    Calls Tryz.prog 39 #[.pointer (some ⟨l, 0, none⟩)] w fun e w' => e = .returned (.int .i64 sz) ∧ w = w' := by
  obtain ⟨h0, h1, h2, h3, h4⟩ := h.cells
  have H := Lib.hid (lnone_any l d nm n sz br w h)
  clear h h0 h1 h2 h4
  go_enter Tryz.func39, Tryz.ntmps39
  go_wp2_with fail
  refine H.out.mono ?_
  rintro e w' ⟨rfl, rfl⟩
  go_wp2_with fail
  go_ret
  exact ⟨rfl, rfl⟩
theorem Len_none (v : Value) (w : World) (h : Calls Tryz.prog 46 #[v] w fun e w' => e = .returned (.bool true) ∧ w = w') :
    Calls Tryz.prog 38 #[v] w fun e w' => e = .returned (.int .i64 0) ∧ w = w' := by
  have H := Lib.hid h
  clear h
  go_enter Tryz.func38, Tryz.ntmps38
  go_wp2_with fail
  refine H.out.mono ?_
  rintro e w' ⟨rfl, rfl⟩
  go_wp2_with fail
  go_ret
  exact ⟨rfl, rfl⟩
theorem Size_none (v : Value) (w : World) (h : Calls Tryz.prog 46 #[v] w fun e w' => e = .returned (.bool true) ∧ w = w') :
    Calls Tryz.prog 39 #[v] w fun e w' => e = .returned (.int .i64 0) ∧ w = w' := by
  have H := Lib.hid h
  clear h
  go_enter Tryz.func39, Tryz.ntmps39
  go_wp2_with fail
  refine H.out.mono ?_
  rintro e w' ⟨rfl, rfl⟩
  go_wp2_with fail
  go_ret
  exact ⟨rfl, rfl⟩
theorem Broken_none (v : Value) (w : World) (h : Calls Tryz.prog 46 #[v] w fun e w' => e = .returned (.bool true) ∧ w = w') :
    Calls Tryz.prog 40 #[v] w fun e w' => e = .returned (.bool false) ∧ w = w' := by
  have H := Lib.hid h
  clear h
  go_enter Tryz.func40, Tryz.ntmps40
  go_wp2_with fail
  refine H.out.mono ?_
  rintro e w' ⟨rfl, rfl⟩
  go_wp2_with fail
  go_ret
  exact ⟨rfl, rfl⟩
theorem Broken_any (l d : Nat) (nm : ByteArray) (n sz : Int) (br : Bool) (w : World) (h : LedRow w l d nm n sz br) :
    Calls Tryz.prog 40 #[.pointer (some ⟨l, 0, none⟩)] w fun e w' => e = .returned (.bool br) ∧ w = w' := by
  obtain ⟨h0, h1, h2, h3, h4⟩ := h.cells
  have H := Lib.hid (lnone_any l d nm n sz br w h)
  clear h h0 h1 h2 h3
  go_enter Tryz.func40, Tryz.ntmps40
  go_wp2_with fail
  refine H.out.mono ?_
  rintro e w' ⟨rfl, rfl⟩
  go_wp2_with fail
  go_ret
  exact ⟨rfl, rfl⟩
theorem AddEnd_ok (rp fp bp l : Nat) (b0 : Bool) (u : FrameMode) (w : World) (hr : w.cell? ⟨rp, 0, none⟩ = some (.int .i64 0)) (_hf : w.cell? ⟨fp, 0, none⟩ = some (.bool b0)) (hb : w.cell? ⟨bp, 0, none⟩ = some (.pointer (some ⟨l, 0, none⟩)))
    (hl : w.cell? ⟨l, 4, none⟩ = some (.bool false)) (hz : w.frozen? ⟨l, 4, none⟩ = false) :
    CallsD Tryz.prog 48 #[.pointer (some ⟨rp, 0, none⟩), .pointer (some ⟨fp, 0, none⟩), .pointer (some ⟨bp, 0, none⟩)] u w fun e u' w' => u' = u ∧ (e = .returned (.tuple #[]) ∧ w' = w.setCell ⟨l, 4, none⟩ (.bool false)) := by
  go_enter_d Tryz.func48, Tryz.ntmps48
  go_wp2
  go_end0
  exact ⟨rfl, rfl⟩
theorem AddEnd_fail (rp fp bp l : Nat) (c : Int) (hc : (c == 0) = false) (u : FrameMode) (w : World) (hr : w.cell? ⟨rp, 0, none⟩ = some (.int .i64 c)) (hf : w.cell? ⟨fp, 0, none⟩ = some (.bool false)) (hb : w.cell? ⟨bp, 0, none⟩ = some (.pointer (some ⟨l, 0, none⟩)))
    (hl : w.cell? ⟨l, 4, none⟩ = some (.bool false)) (hz : w.frozen? ⟨l, 4, none⟩ = false) :
    CallsD Tryz.prog 48 #[.pointer (some ⟨rp, 0, none⟩), .pointer (some ⟨fp, 0, none⟩), .pointer (some ⟨bp, 0, none⟩)] u w fun e u' w' => u' = u ∧ (e = .returned (.tuple #[]) ∧ w' = w.setCell ⟨l, 4, none⟩ (.bool true)) := by
  have hc2 : (c != 0) = true := by simpa using hc
  go_enter_d Tryz.func48, Tryz.ntmps48
  go_wp2
  go_end0
  exact ⟨rfl, rfl⟩
theorem AddEnd_full (rp fp bp l : Nat) (u : FrameMode) (w : World) (hr : w.cell? ⟨rp, 0, none⟩ = some (.int .i64 8)) (hf : w.cell? ⟨fp, 0, none⟩ = some (.bool true)) (hb : w.cell? ⟨bp, 0, none⟩ = some (.pointer (some ⟨l, 0, none⟩)))
    (hl : w.cell? ⟨l, 4, none⟩ = some (.bool false)) (hz : w.frozen? ⟨l, 4, none⟩ = false) :
    CallsD Tryz.prog 48 #[.pointer (some ⟨rp, 0, none⟩), .pointer (some ⟨fp, 0, none⟩), .pointer (some ⟨bp, 0, none⟩)] u w fun e u' w' => u' = u ∧ (e = .returned (.tuple #[]) ∧ w' = w.setCell ⟨l, 4, none⟩ (.bool false)) := by
  go_enter_d Tryz.func48, Tryz.ntmps48
  go_wp2
  go_end0
  exact ⟨rfl, rfl⟩
end Go.Proofs.YtjkkfjmloleedaaGreat
