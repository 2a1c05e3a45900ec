/- the disk's calls, each against what it makes of what both disks hold: Rename, Crash, Read, Loose -/
import Derived.Test.YtgbpgmbnihfkkaaRNames
import Derived.Test.YtgbpgmbnihfkkaaRow3
import Derived.Test.YtgbpgmbnihfkkaaLSig
import Derived.Defers
namespace Go.Proofs.Ytgbpgmbnihfkkaa
open Go.RowKit
set_option linter.unusedSectionVars false
variable [Zone]
theorem crashN_other {M : List Ent} {K : List Int} {f : Nat} : ∀ (L : List FileV) (i : Nat) (C : Cont), (∀ x ∈ L, ∀ g, fileOf x.1 M = some g → g ≠ f) → crashN M K (L.map fun x => nmL x.1) i C f = C f
  | [], _, _, _ => rfl
  | x :: L, i, C, h => by
    rw [List.map_cons, crashN, crashN_other L _ _ (fun y hy => h y (List.mem_cons_of_mem _ hy)), show (⟨(nmL x.1).toArray⟩ : ByteArray) = x.1 by simp]
    have h0 := h x (List.mem_cons_self ..)
    cases hg : fileOf x.1 M with
    | none => rfl
    | some g => exact setC_ne _ _ (fun e => h0 g hg e.symm)
theorem crashN_at {M : List Ent} {K : List Int} {f : Nat} (hap : ∀ (s t : ByteArray) (g : Nat), fileOf s M = some g → fileOf t M = some g → s = t) : ∀ (L : List FileV) (i j : Nat) (C : Cont), L.Pairwise (fun x y => x.1 ≠ y.1) → j < L.length → fileOf (L.getD j f0).1 M = some f → crashN M K (L.map fun x => nmL x.1) i C f = (afterZ (C f).1 (C f).2 (unitK K (i + j) (C f).2), [])
  | x :: L, i, 0, C, hd, _, hf => by
    have hf : fileOf x.1 M = some f := hf
    rw [List.map_cons, crashN, show (⟨(nmL x.1).toArray⟩ : ByteArray) = x.1 by simp, hf]
    rw [crashN_other L _ _ (fun y hy g hg e => ?_)]
    · exact setC_at _ _ _
    · subst e
      exact (List.pairwise_cons.1 hd).1 y hy (hap _ _ _ hf hg)
  | x :: L, i, j + 1, C, hd, hj, hf => by
    have hj : j < L.length := by simpa using hj
    have hf : fileOf (L.getD j f0).1 M = some f := hf
    rw [List.map_cons, crashN, show (⟨(nmL x.1).toArray⟩ : ByteArray) = x.1 by simp]
    have hx : x.1 ≠ (L.getD j f0).1 := (List.pairwise_cons.1 hd).1 _ (getD_mem' hj)
    cases hg : fileOf x.1 M with
    | none =>
      show crashN M K (L.map fun x => nmL x.1) (i + 1) C f = _
      rw [crashN_at hap L (i + 1) j C (List.pairwise_cons.1 hd).2 hj hf, show i + 1 + j = i + (j + 1) by omega]
    | some g =>
      show crashN M K (L.map fun x => nmL x.1) (i + 1) (setC C g (afterZ (C g).1 (C g).2 (unitK K i (C g).2), [])) f = _
      have hne : f ≠ g := fun e => by
        subst e
        exact hx (hap _ _ _ hg hf)
      rw [crashN_at hap L (i + 1) j _ (List.pairwise_cons.1 hd).2 hj hf, setC_ne _ _ hne, show i + 1 + j = i + (j + 1) by omega]
theorem Mir.crash {M : List Ent} {C : Cont} {R : List FileV} (h : Mir M C R) (hn : (M.map (·.1)).Nodup) (hap : ∀ x ∈ M, ∀ y ∈ M, x.2.1 = y.2.1 → x.1 = y.1) (K : List Int) : Mir M (crashN M K (sortN M) 0 C) (crashL K R) := by
  have hap2 : ∀ (s t : ByteArray) (g : Nat), fileOf s M = some g → fileOf t M = some g → s = t := fun s t g h1 h2 => by
    obtain ⟨b1, q1⟩ := fileOf_mem h1
    obtain ⟨b2, q2⟩ := fileOf_mem h2
    exact hap _ q1 _ q2 rfl
  have hd : R.Pairwise (fun x y => x.1 ≠ y.1) := h.rise.imp (fun {a b} hab e => by rw [e] at hab; exact List.lt_irrefl _ hab)
  rw [h.names hn]
  refine ⟨?_, fun x hx => ?_, fun y hy => ?_⟩
  · have h1 := h.rise
    rw [List.pairwise_iff_getElem] at h1 ⊢
    unfold crashL
    intro i j hi hj hij
    rw [List.length_mapIdx] at hi hj
    rw [List.getElem_mapIdx, List.getElem_mapIdx]
    exact h1 i j hi hj hij
  · unfold crashL at hx
    obtain ⟨j, hj, rfl⟩ := List.mem_mapIdx.1 hx
    obtain ⟨f, b, q1, q2⟩ := h.has _ (List.getElem_mem hj)
    refine ⟨f, b, q1, ?_⟩
    have e : R.getD j f0 = R[j] := by rw [List.getD_eq_getElem?_getD, List.getElem?_eq_getElem hj]; rfl
    rw [crashN_at hap2 R 0 j C hd hj (by rw [e]; exact fileOf_of hn q1), q2, Nat.zero_add]
    unfold crashAt
    have hu := unitK_le K j R[j].2.2
    rw [runD_keeps, Int.toNat_of_nonneg hu.1]
  · obtain ⟨x, hx, e⟩ := h.all y hy
    obtain ⟨j, hj, rfl⟩ := List.getElem_of_mem hx
    exact ⟨crashAt K j R[j], List.mem_mapIdx.2 ⟨j, hj, rfl⟩, e⟩
theorem Crash_S (ao : Option Addr) (n cap : Nat) (K : List Int) (d mb base : Nat) (g : Sig) (w : World) (hb : base ≤ w.heap.size) (h : DSig w d mb base g) (hK : IsKeeps w ao n cap K) :
    Calls Try.prog 9 #[.pointer (some ⟨d, 0, none⟩), .slice ao n cap] w fun e w' => e = .returned (.int .i64 (crashG K g).1) ∧ DSig w' d mb base (crashG K g).2 ∧ Kept d mb base w w' := by
  obtain ⟨M, C, fu, h1, h2, h3⟩ := h
  refine (Crash_G d mb base M C _ fu g.out ao n cap K w hb h1 hK).mono ?_
  rintro e w' ⟨rfl, q1, q2⟩
  exact ⟨rfl, ⟨M, _, -1, q1, h2.crash h1.once.1 h1.apart K, .inl ⟨rfl, rfl⟩⟩, q2⟩
theorem Read_S (s : ByteArray) (d mb base : Nat) (g : Sig) (w : World) (h : DSig w d mb base g) :
    Calls Try.prog 12 #[.pointer (some ⟨d, 0, none⟩), .string s] w fun e w' => ∃ v, e = .returned (.tuple #[v, .int .i64 (readG s g).1]) ∧ OwnB w' w.heap.size v (readG s g).2 ∧ Below w.heap.size w w' := by
  obtain ⟨M, C, fu, h1, h2, h3⟩ := id h
  obtain ⟨hn, hm16⟩ := h1.once
  unfold readG
  split
  · rename_i ho
    have hd := h1.dm.2.2.1
    rw [ho] at hd
    refine (Read_ref d 10 w (.inr rfl) (NoOpen.of_out d mb _ fu s w hd)).mono ?_
    rintro e w' ⟨rfl, rfl⟩
    exact ⟨_, rfl, OwnB.nil w _, Below.refl _ _⟩
  rename_i ho
  have ho : g.out = false := by simpa using ho
  rw [ho] at h1
  have hz := atZ_is s g.R
  split
  · rename_i hneg
    obtain ⟨hfo, hno⟩ := h2.no hz hneg
    refine (Read_ref d 6 w (.inl rfl) (NoOpen.of_none d mb M _ fu w h1.dm hfo)).mono ?_
    rintro e w' ⟨rfl, rfl⟩
    exact ⟨_, rfl, OwnB.nil w _, Below.refl _ _⟩
  rename_i hneg
  obtain ⟨f, b, hfm, hfo, hC, hzl, hze⟩ := h2.at hn hz (by omega)
  refine (Read_G (nm := s) d mb base f M C _ fu w h1 hfo).mono ?_
  rintro e w' ⟨v, rfl, hv, hw⟩
  rw [hC] at hv
  exact ⟨v, rfl, hv, hw⟩
theorem Names_S (d mb base : Nat) (g : Sig) (w : World) (h : DSig w d mb base g) :
    Calls Try.prog 20 #[.pointer (some ⟨d, 0, none⟩)] w fun e w' => ∃ v, e = .returned v ∧ OwnT w' w.heap.size v (g.R.map (·.1)) ∧ Below w.heap.size w w' := by
  obtain ⟨M, C, fu, h1, h2, h3⟩ := h
  obtain ⟨hn, hm16⟩ := h1.once
  refine (Names_any d mb M _ fu g.out w h1.dm).mono ?_
  rintro e w' ⟨v, rfl, q1, q2, q3⟩
  refine ⟨v, rfl, ?_, q3⟩
  rw [h2.names hn, ← h2.length hn] at q1
  unfold OwnT
  rw [List.length_map, List.map_map]
  rw [List.map_map] at q1
  have e : (encStr ∘ fun x : FileV => nmL x.1) = (Value.string ∘ fun x : FileV => x.1) := by
    funext x
    simp [encStr]
  rw [e] at q1
  exact q1
end Go.Proofs.Ytgbpgmbnihfkkaa

/- the reference's calls, each against what it makes of what both disks hold -/
namespace Go.Proofs.Ytgbpgmbnihfkkaa
open Go.RowKit
set_option linter.unusedSectionVars false
variable [Zone]
/-- what the reference's calls want. -/
structure RIn (q k : Nat) (g : Sig) : Prop where
  lim : Lim q k g
  hq : q ≤ 4294967296
  hk : k ≤ 100000
  fit : ∀ x ∈ g.R, FitF x
  few : g.R.length ≤ 16
theorem fit0 : FitF f0 := by unfold FitF f0; exact ⟨trivial, by simp [unitsD]⟩
theorem RIn.get {q k : Nat} {g : Sig} (h : RIn q k g) (i : Nat) : FitF (g.R.getD i f0) ∧ (g.R.getD i f0).2.2.length ≤ 100000 := by
  have h2 := (h.lim.get i).2
  have hk := h.hk
  refine ⟨?_, by omega⟩
  by_cases hi : i < g.R.length
  · exact h.fit _ (getD_mem' hi)
  · rw [List.getD_eq_getElem?_getD, List.getElem?_eq_none (by omega)]
    exact fit0
end Go.Proofs.Ytgbpgmbnihfkkaa

/- disk: another block in which none of its bytes lie; CopyBytes -/
namespace Go.Proofs.Ytgbpgmbnihfkkaa
open Go.RowKit
theorem IsBytes.at_block {w w' : World} {ao : Option Addr} {n cap : Nat} {l : List UInt8} (h : IsBytes w ao n cap l) (hb : 0 < n → ∀ ad, ao = some ad → w'.heap[ad.block]? = w.heap[ad.block]?) : IsBytes w' ao n cap l := by
  obtain ⟨h1, h2, h3, h4, h5⟩ := h
  refine ⟨h1, h2, h3, fun hl => ?_, h5⟩
  obtain ⟨b, off, rfl, hc⟩ := h4 hl
  have hn : 0 < n := by
    cases l with
    | nil => exact absurd rfl hl
    | cons a l => simp at h1; omega
  refine ⟨b, off, rfl, fun i hi => ?_⟩
  have hbb : w'.heap[b]? = w.heap[b]? := hb hn _ rfl
  exact (World.cell?_of_block (a := ⟨b, off + i, none⟩) hbb).trans (hc i hi)
theorem IsBytes.block_lt {w : World} {ad : Addr} {n cap : Nat} {l : List UInt8} (h : IsBytes w (some ad) n cap l) (hn : 0 < n) : ad.block < w.heap.size := by
  obtain ⟨h1, h2, h3, h4, h5⟩ := h
  have hl : l ≠ [] := by rintro rfl; simp at h1; omega
  obtain ⟨b, off, e, hc⟩ := h4 hl
  injection e with e
  rw [e]
  exact hc.lt hl
theorem FileOwn.rezone {Z1 Z2 : Zone} {w w' : World} {f base : Nat} {S : List UInt8} {D : List Deed} (h : @FileOwn Z1 w f base S D) (hbl : ∀ j, j < w.heap.size → ¬ Z1.g j → w'.heap[j]? = w.heap[j]?) (hcell : ∀ (j : Nat) (c : Array Value) (t : TypeId) (fr : Nat × Nat), w.heap[j]? = some (.cells c t fr) → t ≠ 5 → w'.heap[j]? = w.heap[j]?)
    (hz : ∀ k, Z2.g k → Z1.g k ∨ w.heap.size ≤ k) : @FileOwn Z2 w' f base S D ∧ Go.Proofs.Ytgbpgmbnihfkkaa.rowOf w' f = Go.Proofs.Ytgbpgmbnihfkkaa.rowOf w f := by
  obtain ⟨⟨ao, n, cap, lv, hr, hs, xs, ho, ha, hi⟩, q1, q2⟩ := h
  have hfs : w'.heap[f]? = w.heap[f]? := hcell _ _ _ _ hr (by decide)
  have hbytes : ∀ {a : Option Addr} {m c : Nat} {l : List UInt8}, IsBytes w a m c l → @ZS Z1 a m → IsBytes w' a m c l ∧ @ZS Z2 a m := by
    intro a m c l hb hzs
    refine ⟨hb.at_block (fun hm ad e => ?_), fun hm ad e hk => ?_⟩
    · subst e
      exact hbl _ (hb.block_lt hm) (hzs hm ad rfl)
    · subst e
      rcases hz _ hk with r | r
      · exact hzs hm ad rfl r
      · have := hb.block_lt hm
        omega
  obtain ⟨hs1, hs2⟩ := hbytes hs.1 hs.2
  refine ⟨⟨⟨ao, n, cap, lv, hfs.trans hr, ⟨hs1, hs2⟩, xs, ownsRow_move ho (fun g hg => ?_), ha.move (fun g hg => ?_), fun i hlt => ?_⟩, q1, q2⟩, rowOf_same hfs⟩
  · rcases ho.2 with ⟨rfl, _⟩ | ⟨g', cap', cur, rfl, _, hg', _⟩
    · simp [Value.ownBlock] at hg
    · simp only [Value.ownBlock, Option.some.injEq] at hg
      subst hg
      exact hcell _ _ _ _ hg' (by decide)
  · rcases ho.2 with ⟨rfl, _⟩ | ⟨g', cap', cur, rfl, _, hg', _⟩
    · simp [Value.ownBlock] at hg
    · simp only [Value.ownBlock, Option.some.injEq] at hg
      subst hg
      exact hcell _ _ _ _ hg' (by decide)
  · obtain ⟨u, hu, hd, hzv⟩ := hi i hlt
    cases hx : D.getD i (.cut 0) with
    | more b =>
      rw [hx] at hd
      obtain ⟨a, m, c, rfl, hb⟩ := hd
      cases a with
      | none =>
        refine ⟨_, hu, ⟨none, m, c, rfl, hb.at_block (fun _ ad e => by cases e)⟩, trivial⟩
      | some ad =>
        have hzs : @ZS Z1 (some ad) m := fun hm ad' e => by
          injection e with e
          subst e
          exact hzv hm
        obtain ⟨b1, b2⟩ := hbytes hb hzs
        exact ⟨_, hu, ⟨some ad, m, c, rfl, b1⟩, fun hm => b2 hm ad rfl⟩
    | cut z =>
      rw [hx] at hd
      obtain rfl := hd
      exact ⟨_, hu, rfl, trivial⟩
theorem DiskG.rezone {Z1 Z2 : Zone} {w w' : World} {st fu : Int} {out : Bool} {d mb base : Nat} {M : List Ent} {C : Cont} (h : @DiskG Z1 w st fu out d mb base M C) (_hsz : w.heap.size ≤ w'.heap.size) (hbl : ∀ j, j < w.heap.size → ¬ Z1.g j → w'.heap[j]? = w.heap[j]?) (hcell : ∀ (j : Nat) (c : Array Value) (t : TypeId) (fr : Nat × Nat), w.heap[j]? = some (.cells c t fr) → t ≠ 5 → w'.heap[j]? = w.heap[j]?) (hmap : ∀ (j : Nat) (es : Array MapEntry) (c : Nat), w.heap[j]? = some (.map es c) → w'.heap[j]? = w.heap[j]?)
    (hz : ∀ k, Z2.g k → (Z1.g k ∨ w.heap.size ≤ k) ∧ k < w'.heap.size) : @DiskG Z2 w' st fu out d mb base M C := by
  have pdm := @DiskG.dm Z1 _ _ _ _ _ _ _ _ _ h
  have plow := @DiskG.low Z1 _ _ _ _ _ _ _ _ _ h
  have pown := @DiskG.own Z1 _ _ _ _ _ _ _ _ _ h
  have papart := @DiskG.apart Z1 _ _ _ _ _ _ _ _ _ h
  have prows := @DiskG.rows Z1 _ _ _ _ _ _ _ _ _ h
  have hd : DiskM w' st fu out d mb M := by
    obtain ⟨q1, q2, q3, c, q4, q5⟩ := pdm
    exact ⟨q1, q2, (hcell _ _ _ _ q3 (by decide)).trans q3, c, q4, (hmap _ _ _ q5).trans q5⟩
  have key : ∀ x ∈ M, @FileOwn Z2 w' x.2.1 base (C x.2.1).1 (C x.2.1).2 ∧ rowOf w' x.2.1 = rowOf w x.2.1 := fun x hx => FileOwn.rezone (Z1 := Z1) (Z2 := Z2) (pown x hx).2 hbl hcell (fun k hk => (hz k hk).1)
  refine @DiskG.mk Z2 _ _ _ _ _ _ _ _ _ hd plow  (fun x hx => ⟨(pown x hx).1, (key x hx).1⟩) papart (fun x hx y hy hne k hk => ?_) (fun k hk => (hz k hk).2)
  rw [(key x hx).2] at hk
  rw [(key y hy).2]
  exact prows x hx y hy hne k hk
/-- own bytes stay where a disk does something. -/
theorem OwnB.keptD {d mb base b2 : Nat} {w w' : World} {st fu : Int} {out : Bool} {es : Array MapEntry} {cl : Nat} {v : Value} {l : List UInt8} (h : OwnB w b2 v l) (k : Kept d mb base w w') (hd : DiskRow w d mb st fu out) (hm : w.heap[mb]? = some (.map es cl)) : OwnB w' b2 v l := by
  refine h.move (fun g hg => ?_)
  rcases h.1.2 with ⟨rfl, _⟩ | ⟨g', cap', cur, rfl, _, hg', _⟩
  · simp [Value.ownBlock] at hg
  · simp only [Value.ownBlock, Option.some.injEq] at hg
    subst hg
    exact k.cells hd hm hg' (by decide)
/-- own bytes' block. -/
theorem OwnB.typed {w : World} {base k : Nat} {v : Value} {l : List UInt8} (h : OwnB w base v l) (hk : v.ownBlock = some k) : ∃ c fr, w.heap[k]? = some (.cells c 5 fr) := by
  rcases h.1.2 with ⟨rfl, _⟩ | ⟨g', cap', cur, rfl, _, hg', _⟩
  · simp [Value.ownBlock] at hk
  · simp only [Value.ownBlock, Option.some.injEq] at hk
    subst hk
    exact ⟨_, _, hg'⟩
end Go.Proofs.Ytgbpgmbnihfkkaa

/- both disks side by side: what is done to the one leaves the other; another block apart -/
namespace Go.Proofs.Ytgbpgmbnihfkkaa
open Go.RowKit
set_option linter.unusedSectionVars false
theorem DSig.map [Zone] {w : World} {d mb base : Nat} {g : Sig} (h : DSig w d mb base g) : ∃ st fu out es c, DiskRow w d mb st fu out ∧ w.heap[mb]? = some (.map es c) := by
  obtain ⟨M, C, fu, h1, h2, h3⟩ := h
  obtain ⟨q1, q2, q3, c, q4, q5⟩ := h1.dm
  exact ⟨_, _, _, _, _, q3, q5⟩
theorem Kept.u8s {d mb base : Nat} {w w' : World} {st fu : Int} {out : Bool} {es : Array MapEntry} {cl : Nat} (h : Kept d mb base w w') (hd : DiskRow w d mb st fu out) (hm : w.heap[mb]? = some (.map es cl)) {j off : Nat} {v : Int} (hc : w.cell? ⟨j, off, none⟩ = some (.int .u8 v)) : w'.heap[j]? = w.heap[j]? := by
  refine h.u8 j off v hc ?_ ?_
  · rintro rfl
    have := hd.plain _ _ hc
    simp [plainV] at this
  · rintro rfl
    have := map_plain hm _ _ hc
    simp [plainV] at this
/-- another block apart. -/
theorem IsBytesZ.rezone {Z1 Z2 : Zone} {w w' : World} {a : Option Addr} {m c : Nat} {l : List UInt8} (h : @IsBytesZ Z1 w a m c l) (hbl : ∀ j, j < w.heap.size → ¬ Z1.g j → w'.heap[j]? = w.heap[j]?) (hz : ∀ k, Z2.g k → Z1.g k ∨ w.heap.size ≤ k) : @IsBytesZ Z2 w' a m c l := by
  obtain ⟨hb, hzs⟩ := h
  refine ⟨hb.at_block (fun hm ad e => ?_), fun hm ad e hk => ?_⟩
  · subst e
    exact hbl _ (hb.block_lt hm) (hzs hm ad rfl)
  · subst e
    rcases hz _ hk with r | r
    · exact hzs hm ad rfl r
    · have := hb.block_lt hm
      omega
theorem DSig.rezone {Z1 Z2 : Zone} {w w' : World} {d mb base : Nat} {g : Sig} (h : @DSig Z1 w d mb base g) (hsz : w.heap.size ≤ w'.heap.size) (hbl : ∀ j, j < w.heap.size → ¬ Z1.g j → w'.heap[j]? = w.heap[j]?) (hcell : ∀ (j : Nat) (c : Array Value) (t : TypeId) (fr : Nat × Nat), w.heap[j]? = some (.cells c t fr) → t ≠ 5 → w'.heap[j]? = w.heap[j]?) (hmap : ∀ (j : Nat) (es : Array MapEntry) (c : Nat), w.heap[j]? = some (.map es c) → w'.heap[j]? = w.heap[j]?)
    (hz : ∀ k, Z2.g k → (Z1.g k ∨ w.heap.size ≤ k) ∧ k < w'.heap.size) : @DSig Z2 w' d mb base g := by
  obtain ⟨M, C, fu, h1, h2, h3⟩ := h
  exact ⟨M, C, fu, DiskG.rezone (Z1 := Z1) (Z2 := Z2) h1 hsz hbl hcell hmap hz, h2, h3⟩
end Go.Proofs.Ytgbpgmbnihfkkaa

/- ledger: none, Len, Size, Broken; what Add defers -/
namespace Go.Proofs.Ytgbpgmbnihfkkaa
open Go.RowKit
/-- a ledger's own cells. -/
def LedRow (w : World) (l d : Nat) (nm : ByteArray) (n sz : Int) (br : Bool) : Prop := w.heap[l]? = some (.cells #[.pointer (some ⟨d, 0, none⟩), .string nm, .int .i64 n, .int .i64 sz, .bool br] 50 (0, 0))
theorem LedRow.cells {w : World} {l d : Nat} {nm : ByteArray} {n sz : Int} {br : Bool} (h : LedRow w l d nm n sz br) :
    w.cell? ⟨l, 0, none⟩ = some (.pointer (some ⟨d, 0, none⟩)) ∧ w.cell? ⟨l, 1, none⟩ = some (.string nm) ∧ w.cell? ⟨l, 2, none⟩ = some (.int .i64 n) ∧ w.cell? ⟨l, 3, none⟩ = some (.int .i64 sz) ∧ w.cell? ⟨l, 4, none⟩ = some (.bool br) :=
  ⟨cell_of_row _ _ _ _ _ _ h, cell_of_row _ _ _ _ _ _ h, cell_of_row _ _ _ _ _ _ h, cell_of_row _ _ _ _ _ _ h, cell_of_row _ _ _ _ _ _ h⟩
theorem lnone_any (l d : Nat) (nm : ByteArray) (n sz : Int) (br : Bool) (w : World) (h : LedRow w l d nm n sz br) :
    Calls Try.prog 15 #[.pointer (some ⟨l, 0, none⟩)] w fun e w' => e = .returned (.bool false) ∧ w = w' := by
  obtain ⟨h0, h1, h2, h3, h4⟩ := h.cells
  clear h h1 h2 h3 h4
  go_enter Try.func15, Try.ntmps15
  go_wp2
  go_ret
  exact ⟨rfl, rfl⟩
theorem lnone_nil (w : World) : Calls Try.prog 15 #[.pointer none] w fun e w' => e = .returned (.bool true) ∧ w = w' := by
  go_enter Try.func15, Try.ntmps15
  go_wp2
  go_ret
  exact ⟨rfl, rfl⟩
theorem lnone_zero (l : Nat) (w : World) (h : w.cell? ⟨l, 0, none⟩ = some (.pointer none)) : Calls Try.prog 15 #[.pointer (some ⟨l, 0, none⟩)] w fun e w' => e = .returned (.bool true) ∧ w = w' := by
  go_enter Try.func15, Try.ntmps15
  go_wp2
  go_ret
  exact ⟨rfl, rfl⟩
theorem Len_any (l d : Nat) (nm : ByteArray) (n sz : Int) (br : Bool) (w : World) (h : LedRow w l d nm n sz br) :
    Calls Try.prog 14 #[.pointer (some ⟨l, 0, none⟩)] w fun e w' => e = .returned (.int .i64 n) ∧ w = w' := by
  obtain ⟨h0, h1, h2, h3, h4⟩ := h.cells
  have H := Lib.hid (lnone_any l d nm n sz br w h)
  clear h h0 h1 h3 h4
  go_enter Try.func14, Try.ntmps14
  go_wp2_with fail
  refine H.out.mono ?_
  rintro e w' ⟨rfl, rfl⟩
  go_wp2_with fail
  go_ret
  exact ⟨rfl, rfl⟩
theorem Size_any (l d : Nat) (nm : ByteArray) (n sz : Int) (br : Bool) (w : World) (h : LedRow w l d nm n sz br) :
    Calls Try.prog 35 #[.pointer (some ⟨l, 0, none⟩)] w fun e w' => e = .returned (.int .i64 sz) ∧ w = w' := by
  obtain ⟨h0, h1, h2, h3, h4⟩ := h.cells
  have H := Lib.hid (lnone_any l d nm n sz br w h)
  clear h h0 h1 h2 h4
  go_enter Try.func35, Try.ntmps35
  go_wp2_with fail
  refine H.out.mono ?_
  rintro e w' ⟨rfl, rfl⟩
  go_wp2_with fail
  go_ret
  exact ⟨rfl, rfl⟩
theorem Len_none (v : Value) (w : World) (h : Calls Try.prog 15 #[v] w fun e w' => e = .returned (.bool true) ∧ w = w') :
    Calls Try.prog 14 #[v] w fun e w' => e = .returned (.int .i64 0) ∧ w = w' := by
  have H := Lib.hid h
  clear h
  go_enter Try.func14, Try.ntmps14
  go_wp2_with fail
  refine H.out.mono ?_
  rintro e w' ⟨rfl, rfl⟩
  go_wp2_with fail
  go_ret
  exact ⟨rfl, rfl⟩
theorem Size_none (v : Value) (w : World) (h : Calls Try.prog 15 #[v] w fun e w' => e = .returned (.bool true) ∧ w = w') :
    Calls Try.prog 35 #[v] w fun e w' => e = .returned (.int .i64 0) ∧ w = w' := by
  have H := Lib.hid h
  clear h
  go_enter Try.func35, Try.ntmps35
  go_wp2_with fail
  refine H.out.mono ?_
  rintro e w' ⟨rfl, rfl⟩
  go_wp2_with fail
  go_ret
  exact ⟨rfl, rfl⟩
theorem Broken_none (v : Value) (w : World) (h : Calls Try.prog 15 #[v] w fun e w' => e = .returned (.bool true) ∧ w = w') :
    Calls Try.prog 8 #[v] w fun e w' => e = .returned (.bool false) ∧ w = w' := by
  have H := Lib.hid h
  clear h
  go_enter Try.func8, Try.ntmps8
  go_wp2_with fail
  refine H.out.mono ?_
  rintro e w' ⟨rfl, rfl⟩
  go_wp2_with fail
  go_ret
  exact ⟨rfl, rfl⟩
theorem Broken_any (l d : Nat) (nm : ByteArray) (n sz : Int) (br : Bool) (w : World) (h : LedRow w l d nm n sz br) :
    Calls Try.prog 8 #[.pointer (some ⟨l, 0, none⟩)] w fun e w' => e = .returned (.bool br) ∧ w = w' := by
  obtain ⟨h0, h1, h2, h3, h4⟩ := h.cells
  have H := Lib.hid (lnone_any l d nm n sz br w h)
  clear h h0 h1 h2 h3
  go_enter Try.func8, Try.ntmps8
  go_wp2_with fail
  refine H.out.mono ?_
  rintro e w' ⟨rfl, rfl⟩
  go_wp2_with fail
  go_ret
  exact ⟨rfl, rfl⟩
theorem AddEnd_ok (rp fp bp l : Nat) (b0 : Bool) (u : FrameMode) (w : World) (hr : w.cell? ⟨rp, 0, none⟩ = some (.int .i64 0)) (_hf : w.cell? ⟨fp, 0, none⟩ = some (.bool b0)) (hb : w.cell? ⟨bp, 0, none⟩ = some (.pointer (some ⟨l, 0, none⟩)))
    (hl : w.cell? ⟨l, 4, none⟩ = some (.bool false)) (hz : w.frozen? ⟨l, 4, none⟩ = false) :
    CallsD Try.prog 17 #[.pointer (some ⟨rp, 0, none⟩), .pointer (some ⟨fp, 0, none⟩), .pointer (some ⟨bp, 0, none⟩)] u w fun e u' w' => u' = u ∧ (e = .returned (.tuple #[]) ∧ w' = w.setCell ⟨l, 4, none⟩ (.bool false)) := by
  go_enter_d Try.func17, Try.ntmps17
  go_wp2
  go_end0
  exact ⟨rfl, rfl⟩
theorem AddEnd_fail (rp fp bp l : Nat) (c : Int) (hc : (c == 0) = false) (u : FrameMode) (w : World) (hr : w.cell? ⟨rp, 0, none⟩ = some (.int .i64 c)) (hf : w.cell? ⟨fp, 0, none⟩ = some (.bool false)) (hb : w.cell? ⟨bp, 0, none⟩ = some (.pointer (some ⟨l, 0, none⟩)))
    (hl : w.cell? ⟨l, 4, none⟩ = some (.bool false)) (hz : w.frozen? ⟨l, 4, none⟩ = false) :
    CallsD Try.prog 17 #[.pointer (some ⟨rp, 0, none⟩), .pointer (some ⟨fp, 0, none⟩), .pointer (some ⟨bp, 0, none⟩)] u w fun e u' w' => u' = u ∧ (e = .returned (.tuple #[]) ∧ w' = w.setCell ⟨l, 4, none⟩ (.bool true)) := by
  have hc2 : (c != 0) = true := by simpa using hc
  go_enter_d Try.func17, Try.ntmps17
  go_wp2
  go_end0
  exact ⟨rfl, rfl⟩
theorem AddEnd_full (rp fp bp l : Nat) (u : FrameMode) (w : World) (hr : w.cell? ⟨rp, 0, none⟩ = some (.int .i64 8)) (hf : w.cell? ⟨fp, 0, none⟩ = some (.bool true)) (hb : w.cell? ⟨bp, 0, none⟩ = some (.pointer (some ⟨l, 0, none⟩)))
    (hl : w.cell? ⟨l, 4, none⟩ = some (.bool false)) (hz : w.frozen? ⟨l, 4, none⟩ = false) :
    CallsD Try.prog 17 #[.pointer (some ⟨rp, 0, none⟩), .pointer (some ⟨fp, 0, none⟩), .pointer (some ⟨bp, 0, none⟩)] u w fun e u' w' => u' = u ∧ (e = .returned (.tuple #[]) ∧ w' = w.setCell ⟨l, 4, none⟩ (.bool false)) := by
  go_enter_d Try.func17, Try.ntmps17
  go_wp2
  go_end0
  exact ⟨rfl, rfl⟩
end Go.Proofs.Ytgbpgmbnihfkkaa
