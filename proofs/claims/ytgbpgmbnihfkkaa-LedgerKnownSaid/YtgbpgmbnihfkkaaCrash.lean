/- disk: Rename, Remove, whole -/
import Derived.Test.YtgbpgmbnihfkkaaDRen
namespace Go.Proofs.Ytgbpgmbnihfkkaa
open Go.RowKit
set_option linter.unusedSectionVars false
variable [Zone]
theorem DiskG.same {w w' : World} {st fu st' fu' : Int} {out out' : Bool} {d mb base : Nat} {M : List Ent} {C : Cont} (h : DiskG w st fu out d mb base M C) (hb : base ≤ w.heap.size) (hos : w'.os = w.os ∧ w'.tape = w.tape ∧ w'.output = w.output) (hsz : w.heap.size ≤ w'.heap.size) (hbl : ∀ j, j < w.heap.size → j ≠ d → w'.heap[j]? = w.heap[j]?)
    (hd : DiskRow w' d mb st' fu' out') (hfu : fu' ≤ 9223372036854775807) : DiskG w' st' fu' out' d mb base M C ∧ Kept d mb base w w' := by
  obtain ⟨q1, q2, q3, c, q4, q5⟩ := h.dm
  exact h.remap hb hos hsz (fun j hj h1 _ => hbl j hj h1) ⟨hfu, q2, hd, c, q4, (hbl mb (heap_lt q5) (by omega)).trans q5⟩ (fun x hx => ⟨x, hx, rfl⟩) h.apart
theorem DiskG.outed {w : World} {st fu : Int} {d mb base : Nat} {M : List Ent} {C : Cont} (h : DiskG w st fu false d mb base M C) (hb : base ≤ w.heap.size) : DiskG (w.setCell ⟨d, 3, none⟩ (.bool true)) st fu true d mb base M C ∧ Kept d mb base w (w.setCell ⟨d, 3, none⟩ (.bool true)) :=
  h.same hb ⟨rfl, rfl, rfl⟩ (by simp) (fun j _ hj => Below.heap_setCell _ _ _ _ hj) h.dm.outed.2.2.1 h.dm.1
theorem DiskG.stepped {w : World} {st fu : Int} {d mb base : Nat} {M : List Ent} {C : Cont} (h : DiskG w st fu false d mb base M C) (hb : base ≤ w.heap.size) : DiskG (stepW w d st fu) (wrap64 (st + 1)) (dec fu) false d mb base M C ∧ Kept d mb base w (stepW w d st fu) :=
  h.same hb (stepW_os w d st fu) (by rw [stepW_size]; exact Nat.le_refl _) (fun j _ hj => stepW_heap hj) h.dm.stepped.2.2.1 h.dm.stepped.1
/-- a step of a disk with all its files. -/
theorem step_G (d mb base : Nat) (M : List Ent) (C : Cont) (st fu : Int) (g : Nat) (binds : Array Value) (w : World) (h : DiskG w st fu false d mb base M C) (hb : base ≤ w.heap.size) (eg : ∀ args w, (callFunc g args).run Try.prog w = .ok (.enter g args) w) (Q : World → Prop)
    (hdo : ∀ W, Kept d mb base w W → (∀ (j : Nat), j ≠ d → W.heap[j]? = w.heap[j]?) → DiskG W (wrap64 (st + 1)) (dec fu) false d mb base M C → Calls Try.prog g binds W fun e w' => e = .returned (.tuple #[]) ∧ Q w' ∧ Kept d mb base W w') :
    Calls Try.prog 26 #[.pointer (some ⟨d, 0, none⟩), .func (.func g) #[] binds] w fun e w' => ∃ z, e = .returned (.int .i64 z) ∧ Stepped fu z (DiskG w' st fu true d mb base M C) (Q w') ∧ Kept d mb base w w' := by
  refine (step_all d mb st fu g binds M w h.dm eg (fun w' => Q w' ∧ Kept d mb base w w') (fun _ => ?_)).mono ?_
  · obtain ⟨h1, h2⟩ := h.stepped hb
    refine (hdo _ h2 (fun j hj => stepW_heap hj) h1).mono ?_
    rintro e w' ⟨rfl, q1, q2⟩
    exact ⟨rfl, q1, h2.trans q2⟩
  · rintro e w' ⟨z, rfl, ⟨h1, h2, rfl⟩ | ⟨h1, h2, q1, q2⟩⟩
    · exact ⟨z, rfl, .inl ⟨h1, h2, (h.outed hb).1⟩, (h.outed hb).2⟩
    · exact ⟨z, rfl, .inr ⟨h1, h2, q1⟩, q2⟩
theorem row1_ne {w : World} {d mb : Nat} {st fu : Int} {out : Bool} (hd : DiskRow w d mb st fu out) {j : Nat} {v : Value} {t : TypeId} {fr : Nat × Nat} (h : w.heap[j]? = some (.cells #[v] t fr)) : j ≠ d := by
  rintro rfl
  unfold DiskRow at hd
  rw [hd] at h
  cases h
end Go.Proofs.Ytgbpgmbnihfkkaa

/- disk: Crash, of all files -/
namespace Go.Proofs.Ytgbpgmbnihfkkaa
open Go.RowKit Go.Sort
set_option linter.unusedSectionVars false
variable [Zone]
theorem mod_mod (k : Int) (U : Nat) : (k.tmod ((U : Int) + 1) + ((U : Int) + 1)).tmod ((U : Int) + 1) = k % ((U : Int) + 1) := by
  have h1 := Int.tmod_lt_of_pos (-k) (b := (U : Int) + 1) (by omega)
  rw [Int.neg_tmod] at h1
  rw [Int.tmod_eq_emod_of_nonneg (by omega)]
  have h2 : k.tmod ((U : Int) + 1) + ((U : Int) + 1) = k + ((U : Int) + 1) * (1 - k.tdiv ((U : Int) + 1)) := by
    have h3 := Int.tmod_def k ((U : Int) + 1)
    rw [Int.mul_sub, Int.mul_one]
    omega
  rw [h2, Int.add_mul_emod_self_left]
theorem FileOwn.kept {w : World} {f base base' : Nat} {v : Value} {S : List UInt8} {D : List Deed} {z : Int} (h : FileRow w f v (.slice none 0 0)) (ho : OwnB w base v (afterZ S D z)) (hs : S.length + (D.map Deed.units).sum ≤ 4294967296) (hz : ∀ k, Zone.g k → k < base) : FileOwn w f base' (afterZ S D z) [] := by
  obtain ⟨ao, cap, rfl, hb, _⟩ := ho.bytes
  refine ⟨⟨_, _, _, _, h, ⟨hb, ZS.of_own ho hz⟩, OwnD.nil _ _⟩, trivial, ?_⟩
  have := afterZ_length D S z
  simp only [List.map_nil, List.sum_nil]
  omega
/-- a slice of whole numbers, in no memory of a disk. -/
def IsKeeps (w : World) (ao : Option Addr) (n cap : Nat) (K : List Int) : Prop :=
  K.length = n ∧ n ≤ cap ∧ cap ≤ maxLen ∧ (ao = none → n = 0) ∧ ∀ i, i < n → ∃ b off c t fr v, ao = some ⟨b, off, none⟩ ∧ w.heap[b]? = some (.cells c t fr) ∧ (t ≠ 47 ∧ t ≠ 61 ∧ t ≠ 81) ∧ c[off + i]? = some (.int .i64 v) ∧ K[i]? = some v ∧ -9223372036854775808 ≤ v ∧ v ≤ 9223372036854775807
theorem IsKeeps.nil (w : World) : IsKeeps w none 0 0 [] := ⟨rfl, Nat.le_refl _, by unfold maxLen; omega, fun _ => rfl, fun i h => absurd h (by omega)⟩
theorem Kept.cells {d mb base : Nat} {w w' : World} {st fu : Int} {out : Bool} {es : Array MapEntry} {cl b : Nat} {c : Array Value} {t : TypeId} {fr : Nat × Nat} (h : Kept d mb base w w') (hd : DiskRow w d mb st fu out) (hm : w.heap[mb]? = some (.map es cl)) (hc : w.heap[b]? = some (.cells c t fr)) (ht : t ≠ 47 ∧ t ≠ 61 ∧ t ≠ 81) : w'.heap[b]? = w.heap[b]? := by
  refine h.keep b (heap_lt hc) ?_ ?_ ?_ ?_
  · rintro rfl
    unfold DiskRow at hd
    rw [hd] at hc
    injection hc with hc
    injection hc with h1 h2
    exact ht.1 h2.symm
  · rintro rfl
    rw [hm] at hc
    cases hc
  · intro c' t' e
    rw [hc] at e
    injection e with e
    injection e with h1 h2
    exact ht.2.1 h2
  · intro c' t' e
    rw [hc] at e
    injection e with e
    injection e with h1 h2
    exact ht.2.2 h2
theorem IsKeeps.kept {d mb base : Nat} {w w' : World} {st fu : Int} {out : Bool} {es : Array MapEntry} {cl : Nat} {ao : Option Addr} {n cap : Nat} {K : List Int} (hk : IsKeeps w ao n cap K) (h : Kept d mb base w w') (hd : DiskRow w d mb st fu out) (hm : w.heap[mb]? = some (.map es cl)) : IsKeeps w' ao n cap K := by
  obtain ⟨h1, h2, h3, h4, h5⟩ := hk
  refine ⟨h1, h2, h3, h4, fun i hi => ?_⟩
  obtain ⟨b, off, c, t, fr, v, e, hc, ht, q⟩ := h5 i hi
  exact ⟨b, off, c, t, fr, v, e, (h.cells hd hm hc ht).trans hc, ht, q⟩
/-- how many units of the file at a place stay. -/
def unitK (K : List Int) (i : Nat) (D : List Deed) : Int := if i < K.length then K.getD i 0 % ((unitsD D : Nat) + 1 : Int) else 0
/-- a crash, file by file. -/
def crashN (M : List Ent) (K : List Int) : List (List UInt8) → Nat → Cont → Cont
  | [], _, C => C
  | s :: ns, i, C => crashN M K ns (i + 1) (match fileOf ⟨s.toArray⟩ M with
    | some f => setC C f (afterZ (C f).1 (C f).2 (unitK K i (C f).2), [])
    | none => C)
theorem unitK_le (K : List Int) (i : Nat) (D : List Deed) : 0 ≤ unitK K i D ∧ unitK K i D ≤ unitsD D := by
  unfold unitK
  split
  · exact ⟨Int.emod_nonneg _ (by omega), by have := Int.emod_lt_of_pos (K.getD i 0) (b := ((unitsD D : Nat) : Int) + 1) (by omega); omega⟩
  · omega
theorem fileOf_some {x : Ent} {M : List Ent} (hx : x ∈ M) : ∃ f, fileOf x.1 M = some f := by
  cases h : fileOf x.1 M with
  | none => exact absurd rfl (fileOf_none h x hx)
  | some f => exact ⟨f, rfl⟩
theorem sortN_file {M : List Ent} {k : Nat} {s : List UInt8} (h : (sortN M)[k]? = some s) : ∃ f, fileOf ⟨s.toArray⟩ M = some f := by
  have h1 : s ∈ sortN M := List.mem_of_getElem? h
  unfold sortN at h1
  have h2 := (List.mergeSort_perm _ _).mem_iff.1 h1
  obtain ⟨x, hx, rfl⟩ := List.mem_map.1 h2
  exact fileOf_some hx
theorem sortN_length (M : List Ent) : (sortN M).length = M.length := by simp [sortN]
theorem DiskG.settled {w w' : World} {st fu : Int} {out : Bool} {d mb base f : Nat} {M : List Ent} {C : Cont} {v : Value} {nm : ByteArray} {z : Int} (h : DiskG w st fu out d mb base M C) (hb : base ≤ w.heap.size) (hfo : fileOf nm M = some f) (hr : FileRow w' f v (.slice none 0 0)) (ho : OwnB w' w.heap.size v (afterZ (C f).1 (C f).2 z)) (hg : w.grownBy w' (some f)) :
    DiskG w' st fu out d mb base M (setC C f (afterZ (C f).1 (C f).2 z, [])) ∧ Kept d mb base w w' := by
  obtain ⟨b, hfm⟩ := fileOf_mem hfo
  have hf := (h.file hfo).2
  obtain ⟨q1, q2, q3, c, q4, q5⟩ := h.dm
  have hnd := hf.at.ne_disk q3
  have hnm := hf.at.ne_map q5
  exact h.moved hfm hb ((Moved.refl _ _ _ _).settled hg (rowOf_row hr)) ⟨q1, q2, (hg.block d q3.lt (by intro e; injection e with e; exact hnd e.symm)).trans q3, c, q4, (hg.block mb (heap_lt q5) (by intro e; injection e with e; exact hnm e.symm)).trans q5⟩ (FileOwn.kept hr ho hf.at.small h.zone)
set_option maxRecDepth 100000 in
set_option maxHeartbeats 2000000 in
theorem Crash_G (d mb base : Nat) (M : List Ent) (C : Cont) (st fu : Int) (out : Bool) (ao : Option Addr) (n cap : Nat) (K : List Int) (w : World) (hb : base ≤ w.heap.size) (h : DiskG w st fu out d mb base M C) (hK : IsKeeps w ao n cap K) :
    Calls Try.prog 9 #[.pointer (some ⟨d, 0, none⟩), .slice ao n cap] w fun e w' => e = .returned (.int .i64 0) ∧ DiskG w' st (-1) false d mb base M (crashN M K (sortN M) 0 C) ∧ Kept d mb base w w' := by
  have HN := Lib.hid (none_any d mb st fu out w h.dm.2.2.1)
  have HNM := Lib.hid (Names_any d mb M st fu out w h.dm)
  have HG := Lib.hid h
  have HK := Lib.hid hK
  have HB := Lib.hid hb
  have hkn := hK.2.1
  have hkc := hK.2.2.1
  unfold maxLen at hkc
  clear h hK hb
  go_enter Try.func9, Try.ntmps9
  go_wp2_with fail
  refine HN.out.mono ?_
  rintro e w' ⟨rfl, rfl⟩
  go_wp2_with fail
  refine HNM.out.mono ?_
  rintro e w1 ⟨v, rfl, hrow, hnil, hb1⟩
  obtain ⟨av, cv, hv⟩ := ownsRow_shape hrow
  subst hv
  have hml := HG.out.dm.2.2.2.choose_spec.1.few
  obtain ⟨m, hm⟩ : ∃ m, m = M.length := ⟨_, rfl⟩
  rw [← hm] at hrow hml ⊢
  have hcells : ∃ gv o0, o0 = 0 ∧ (0 < m → av = some ⟨gv, o0, none⟩ ∧ ∃ c fr, w1.heap[gv]? = some (.cells c 9 fr) ∧ ∀ k s, (sortN M)[k]? = some s → c[o0 + k]? = some (encStr s)) := by
    rcases hrow.2 with ⟨h1, h2⟩ | ⟨gv, cap', cur, h1, hbg, hgg, rest⟩
    · exact ⟨0, 0, rfl, fun h => absurd h (by omega)⟩
    · injection h1 with h1 h2 h3
      refine ⟨gv, 0, rfl, fun _ => ⟨h1, _, _, hgg, fun k s hs => ?_⟩⟩
      have hc := hrow.cells (g := gv) (by rw [h1]; rfl) k (encStr s) (by rw [List.getElem?_map, hs]; rfl)
      have he : (⟨gv, 0, none⟩ : Addr).add k = ⟨gv, 0 + k, none⟩ := by unfold Addr.add; split <;> simp_all
      rw [he] at hc
      simp only [World.cell?, hgg] at hc
      exact hc
  obtain ⟨gv, o0, ho0, hcells⟩ := hcells
  have HC := Lib.hid (And.intro ho0 hcells)
  have HM := Lib.hid hm
  have hg1 : DiskG w1 st fu out d mb base M C := HG.out.later hb1
  have hk1 : Kept d mb base w w1 := .of_below hb1 HB.out
  have H1 := Lib.hid (And.intro hg1 (And.intro hk1 (Nat.le_trans HB.out hb1.size)))
  have HK1 : Hid (IsKeeps w1 ao n cap K) := Lib.hid (HK.out.kept hk1 HG.out.dm.2.2.1 HG.out.dm.2.2.2.choose_spec.2)
  clear hrow hnil hb1 hg1 hk1 hcells ho0 hm
  go_wp2_with fail
  go_loopw [15] (fun i wr => ∃ k Ck, k ≤ m ∧ i = .int .i64 ((k : Nat) : Int) ∧ Hid (DiskG wr st fu out d mb base M Ck) ∧ Hid (crashN M K ((sortN M).drop k) k Ck = crashN M K (sortN M) 0 C) ∧ Hid (Kept d mb base w1 wr)) (fun i _ => m - (intOf i).toNat)
  case atStart => exact ⟨0, C, by omega, rfl, Lib.hid H1.out.1, Lib.hid rfl, Lib.hid (Kept.refl _ _ _ _)⟩
  case round =>
    obtain ⟨k, Ck, hk, rfl, hgr, heq, hkr⟩ := hrel
    by_cases hlt : k < m
    · have hk0 : (0 : Int) ≤ (k : Int) := by omega
      have hk1 : (k : Int) < (m : Int) := by omega
      obtain ⟨s, hs⟩ : ∃ s, (sortN M)[k]? = some s := ⟨_, List.getElem?_eq_getElem (by rw [sortN_length, ← HM.out]; exact hlt)⟩
      obtain ⟨hav, cs, fr, hcs, hcc⟩ := HC.out.2 (by omega)
      subst hav
      have hcs2 : wr.heap[gv]? = some (.cells cs 9 fr) := (hkr.out.cells H1.out.1.dm.2.2.1 H1.out.1.dm.2.2.2.choose_spec.2 hcs (by decide)).trans hcs
      have hcell : wr.cell? ⟨gv, o0 + k, none⟩ = some (encStr s) := by
        simp only [World.cell?, hcs2]
        exact hcc k s hs
      obtain ⟨f, hf⟩ := sortN_file hs
      obtain ⟨nm, hnm⟩ : ∃ nm : ByteArray, nm = ⟨s.toArray⟩ := ⟨_, rfl⟩
      rw [← hnm] at hf
      replace hcell : wr.cell? ⟨gv, o0 + k, none⟩ = some (.string nm) := by rw [hcell, hnm]
      have hr0 := hgr.out.dm.2.2.1.cells.1
      obtain ⟨cl, hmr⟩ : ∃ cl, wr.heap[mb]? = some (.map (ents M) cl) := ⟨_, hgr.out.dm.2.2.2.choose_spec.2⟩
      have hlk := look_log wr mb cl M hmr hf
      have hfo := (hgr.out.file hf).2
      have HLO := Lib.hid (loose_at f (Ck f).1 (Ck f).2 wr hfo.at)
      have hsm := hfo.2.2
      have hz := unitK_le K k (Ck f).2
      have hU : unitsD (Ck f).2 ≤ 4294967296 := by unfold unitsD; omega
      have HST := Lib.hid (settle_any f (Ck f).1 (Ck f).2 wr (unitK K k (Ck f).2) hz.1 (by omega) hfo.at)
      obtain ⟨U, hUe⟩ : ∃ U, U = unitsD (Ck f).2 := ⟨_, rfl⟩
      rw [← hUe] at hU HLO
      have HNX : Hid (∀ C', C' = setC Ck f (afterZ (Ck f).1 (Ck f).2 (unitK K k (Ck f).2), []) → crashN M K ((sortN M).drop (k + 1)) (k + 1) C' = crashN M K (sortN M) 0 C) := Lib.hid (by
        rintro _ rfl
        rw [← heq.out]
        have hkl : k < (sortN M).length := by rw [sortN_length, ← HM.out]; exact hlt
        rw [List.drop_eq_getElem_cons hkl]
        have hse : (sortN M)[k] = s := by
          rw [List.getElem?_eq_getElem hkl] at hs
          injection hs
        rw [hse, crashN, ← hnm, hf])
      have HF := Lib.hid hf
      have hwb : base ≤ wr.heap.size := Nat.le_trans H1.out.2.2 hkr.out.below.size
      have HWB := Lib.hid hwb
      by_cases hin : k < n
      · have hin' : (k : Int) < (n : Int) := by omega
        obtain ⟨b, off, c, t, fr', x, hao, hbc, hbt, hcx, hKx, hx0, hx1⟩ := HK1.out.2.2.2.2 k hin
        subst hao
        have hbc2 : wr.heap[b]? = some (.cells c t fr') := (hkr.out.cells H1.out.1.dm.2.2.1 H1.out.1.dm.2.2.2.choose_spec.2 hbc hbt).trans hbc
        have hcx2 : wr.cell? ⟨b, off + k, none⟩ = some (.int .i64 x) := by
          simp only [World.cell?, hbc2]
          exact hcx
        have huk : unitK K k (Ck f).2 = (x.tmod ((U : Int) + 1) + ((U : Int) + 1)).tmod ((U : Int) + 1) := by
          rw [mod_mod, hUe]
          unfold unitK
          rw [if_pos (by rw [HK1.out.1]; exact hin), List.getD_eq_getElem?_getD, hKx]
          rfl
        rw [huk] at HST
        have hw1 : IntKind.i64.wrap ((U : Int) + 1) = (U : Int) + 1 := IntWalk.i64_in _ (by omega)
        have hw2 : IntKind.i64.wrap (x.tmod ((U : Int) + 1) + ((U : Int) + 1)) = x.tmod ((U : Int) + 1) + ((U : Int) + 1) := IntWalk.i64_in _ (by
          have h1 := Int.tmod_lt_of_pos x (b := (U : Int) + 1) (by omega)
          have h2 : -((U : Int) + 1) < x.tmod ((U : Int) + 1) := by
            have := Int.tmod_lt_of_pos (-x) (b := (U : Int) + 1) (by omega)
            rw [Int.neg_tmod] at this
            omega
          omega)
        have hn0 : ¬ ((U : Int) + 1 = 0) := by omega
        have hn1 : (((U : Int) + 1) == 0) = false := by simp; omega
        have HUK := Lib.hid huk
        clear hmr hfo hsm hz hUe hcc hcs hcs2 hs hnm hf hwb hbc hbc2 hcx hKx hx0 hx1 huk hbt
        go_wp2_with fail
        refine HLO.out.mono ?_
        rintro e w' ⟨rfl, rfl⟩
        go_wp2_with fail
        refine HST.out.mono ?_
        rintro e w2 ⟨rfl, ⟨v2, hr2, ho2⟩, hg2⟩
        rw [← HUK.out] at ho2
        obtain ⟨hgn, hkn2⟩ := hgr.out.settled HWB.out HF.out hr2 ho2 hg2
        have HGN := Lib.hid (And.intro hgn (hkr.out.trans hkn2))
        clear hr2 ho2 hg2 hgn hkn2
        go_wp2_with fail
        go_roundw
        case rel => exact ⟨k + 1, _, by omega, by go_num, Lib.hid HGN.out.1, Lib.hid (HNX.out _ rfl), Lib.hid HGN.out.2⟩
        case measure => simp [intOf]; omega
      · have hin' : ¬ (k : Int) < (n : Int) := by omega
        have huk : unitK K k (Ck f).2 = 0 := by
          unfold unitK
          rw [if_neg (by rw [HK1.out.1]; exact hin)]
        rw [huk] at HST
        have HUK := Lib.hid huk
        clear hmr hfo hsm hz hUe hcc hcs hcs2 hs hnm hf hwb huk
        go_wp2_with fail
        refine HST.out.mono ?_
        rintro e w2 ⟨rfl, ⟨v2, hr2, ho2⟩, hg2⟩
        rw [← HUK.out] at ho2
        obtain ⟨hgn, hkn2⟩ := hgr.out.settled HWB.out HF.out hr2 ho2 hg2
        have HGN := Lib.hid (And.intro hgn (hkr.out.trans hkn2))
        clear hr2 ho2 hg2 hgn hkn2
        go_wp2_with fail
        go_roundw
        case rel => exact ⟨k + 1, _, by omega, by go_num, Lib.hid HGN.out.1, Lib.hid (HNX.out _ rfl), Lib.hid HGN.out.2⟩
        case measure => simp [intOf]; omega
    · obtain rfl : k = m := by omega
      have hck : Ck = crashN M K (sortN M) 0 C := by
        have := heq.out
        rw [List.drop_of_length_le (by rw [sortN_length, ← HM.out]; exact Nat.le_refl _)] at this
        exact this
      have hd2 := hgr.out.dm.2.2.1
      obtain ⟨_, _, c2, c3⟩ := hd2.cells
      have z2 : wr.frozen? ⟨d, 2, none⟩ = false := frozen_of_row _ _ _ _ _ hd2
      have z3 : wr.frozen? ⟨d, 3, none⟩ = false := frozen_of_row _ _ _ _ _ hd2
      have hr3 := heap_setCell_same wr d 2 _ _ (.int .i64 (-1)) hd2
      have hr4 := heap_setCell_same _ d 3 _ _ (.bool false) hr3
      have hres := hgr.out.same (w' := (wr.setCell ⟨d, 2, none⟩ (.int .i64 (-1))).setCell ⟨d, 3, none⟩ (.bool false)) (Nat.le_trans H1.out.2.2 hkr.out.below.size) ⟨rfl, rfl, rfl⟩ (by simp) (fun j _ hj => by rw [Below.heap_setCell _ _ _ _ hj, Below.heap_setCell _ _ _ _ hj]) hr4 (by omega)
      have HRES := Lib.hid (And.intro hres.1 ((H1.out.2.1.trans hkr.out).trans hres.2))
      have HCK := Lib.hid hck
      clear hd2 hr3 hr4 hres hck
      go_wp2_with fail
      go_ret
      rw [← HCK.out]
      exact ⟨rfl, HRES.out.1, HRES.out.2⟩
end Go.Proofs.Ytgbpgmbnihfkkaa
