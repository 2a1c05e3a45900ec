/- a region in whatever order: values, and blocks that it makes and fills -/
import Derived.Test.YtgijaaklhdcgeaaGreatMRegJ
import Derived.Below
import Derived.Laws.Tables
import Derived.Laws.Rows
import Derived.Laws.NewBlocks
import Derived.Laws.CopyOwn
import Derived.Test.YtgijaaklhdcgeaaGreatMR10b
set_option linter.unusedSimpArgs false
set_option linter.unusedVariables false
namespace Go.Proofs.YtgijaaklhdcgeaaGreat
open Go Go.RowKit
/-- a block that operation i makes and operation st fills. -/
structure Alo where
  i : Nat
  st : Nat
  t : TypeId
  zero : Array Value
  full : Array Value
def aloOk (als : List Alo) : Bool := decide (als.map (·.i) ++ als.map (·.st)).Nodup
theorem nodup_inj {α β : Type} {f : α → β} : ∀ {l : List α}, (l.map f).Nodup → ∀ {a b : α}, a ∈ l → b ∈ l → f a = f b → a = b
  | [], _, _, _, h, _, _ => by cases h
  | x :: l, hn, a, b, ha, hb, e => by
    rw [List.map_cons, List.nodup_cons] at hn
    rcases List.mem_cons.1 ha with h1 | h1
    · rcases List.mem_cons.1 hb with h2 | h2
      · rw [h1, h2]
      · exact absurd (List.mem_map_of_mem (f := f) h2) (by rw [← e, h1]; exact hn.1)
    · rcases List.mem_cons.1 hb with h2 | h2
      · exact absurd (List.mem_map_of_mem (f := f) h1) (by rw [e, h2]; exact hn.1)
      · exact nodup_inj hn.2 h1 h2 e
theorem aloOk_spec {als : List Alo} (hok : aloOk als = true) : ∀ B ∈ als, ∀ C ∈ als, (B.i = C.i → B = C) ∧ (B.st = C.st → B = C) ∧ B.i ≠ C.st := fun B hB C hC => by
  have h := List.nodup_append.1 (of_decide_eq_true hok)
  exact ⟨fun e => nodup_inj h.1 hB hC e, fun e => nodup_inj h.2.1 hB hC e, h.2.2 _ (List.mem_map_of_mem hB) _ (List.mem_map_of_mem hC)⟩
def aloFree (als : List Alo) (i : Nat) : Bool := als.all fun A => A.i != i && A.st != i
structure StdJ (W : World) (val : Nat → Option Value) (als : List Alo) (L : Nat → Bool) (V : Nat → Value) (w : World) : Prop where
  below : Below W.heap.size W w
  vals : ∀ i v, val i = some v → L i = true → V i = v
  ord : ∀ A ∈ als, L A.st = true → L A.i = true
  made : ∃ β : Nat → Nat, (∀ A ∈ als, L A.i = true → V A.i = .pointer (some ⟨β A.i, 0, none⟩) ∧ W.heap.size ≤ β A.i ∧ w.heap[β A.i]? = some (.cells (if L A.st = true then A.full else A.zero) A.t (0, 0))) ∧
    (∀ A ∈ als, ∀ B ∈ als, L A.i = true → L B.i = true → A.i ≠ B.i → β A.i ≠ β B.i)
theorem StdJ.start {W w : World} {val : Nat → Option Value} {als : List Alo} {V : Nat → Value} (h : Below W.heap.size W w) : StdJ W val als (fun _ => false) V w :=
  ⟨h, fun _ _ _ h => (by cases h), fun _ _ h => (by cases h), fun _ => 0, fun _ _ h => (by cases h), fun _ _ _ _ h => (by cases h)⟩
theorem StdJ.val {W w w' : World} {val : Nat → Option Value} {als : List Alo} {L : Nat → Bool} {V : Nat → Value} (h : StdJ W val als L V w) (hb : Below w.heap.size w w') (i : Nat) (v : Value) (hf : aloFree als i = true) (hv : (match val i with | some u => u = v | none => True)) :
    StdJ W val als (upd L i true) (upd V i v) w' := by
  have hne : ∀ A ∈ als, A.i ≠ i ∧ A.st ≠ i := fun A hA => by simpa using List.all_eq_true.1 hf A hA
  obtain ⟨h1, h2, h5, β, h3, h4⟩ := h
  refine ⟨h1.trans (hb.mono h1.size), fun j u hj hl => ?_, fun A hA hl => ?_, β, fun A hA hl => ?_, fun A hA B hB ha hb' => ?_⟩
  · by_cases hji : j = i
    · subst hji
      rw [upd_at]
      rw [hj] at hv
      exact hv.symm
    · rw [upd_ne _ _ _ _ hji] at hl ⊢
      exact h2 j u hj hl
  · obtain ⟨n1, n2⟩ := hne A hA
    rw [upd_ne _ _ _ _ n2] at hl
    rw [upd_ne _ _ _ _ n1]
    exact h5 A hA hl
  · obtain ⟨n1, n2⟩ := hne A hA
    rw [upd_ne _ _ _ _ n1] at hl ⊢
    rw [upd_ne _ _ _ _ n2]
    obtain ⟨e1, e2, e3⟩ := h3 A hA hl
    exact ⟨e1, e2, (hb.block _ (Array.getElem?_eq_some_iff.1 e3).1).trans e3⟩
  · rw [upd_ne _ _ _ _ (hne A hA).1] at ha
    rw [upd_ne _ _ _ _ (hne B hB).1] at hb'
    exact h4 A hA B hB ha hb'
theorem StdJ.alloc {W w : World} {val : Nat → Option Value} {als : List Alo} {L : Nat → Bool} {V : Nat → Value} (h : StdJ W val als L V w) (hok : aloOk als = true) (A : Alo) (hA : A ∈ als) (hl : L A.i = false) (hv : val A.i = none) :
    StdJ W val als (upd L A.i true) (upd V A.i (.pointer (some ⟨w.heap.size, 0, none⟩))) (w.alloc (.cells A.zero A.t)) := by
  have hok' := aloOk_spec hok
  obtain ⟨h1, h2, h5, β, h3, h4⟩ := h
  have hb : Below w.heap.size w (w.alloc (.cells A.zero A.t)) := (Below.refl _ _).alloc (Nat.le_refl _) _
  have hs : L A.st = false := by
    cases e : L A.st with
    | false => rfl
    | true => rw [h5 A hA e] at hl; cases hl
  refine ⟨h1.alloc h1.size _, fun j u hj hl' => ?_, fun B hB hl' => ?_, upd β A.i w.heap.size, fun B hB hl' => ?_, fun B hB C hC hb' hc' hne => ?_⟩
  · have hji : j ≠ A.i := fun e => by subst e; rw [hv] at hj; cases hj
    rw [upd_ne _ _ _ _ hji] at hl' ⊢
    exact h2 j u hj hl'
  · by_cases hBA : B.i = A.i
    · rw [hBA, upd_at]
    · rw [upd_ne _ _ _ _ hBA]
      rw [upd_ne _ _ _ _ (fun e => (hok' A hA B hB).2.2 e.symm)] at hl'
      exact h5 B hB hl'
  · by_cases hBA : B.i = A.i
    · obtain rfl : B = A := (hok' B hB A hA).1 hBA
      rw [upd_at, upd_at]
      refine ⟨rfl, h1.size, ?_⟩
      rw [upd_ne _ _ _ _ (fun e => (hok' B hB B hB).2.2 e.symm), hs]
      have hnew : (w.alloc (.cells B.zero B.t)).heap[w.heap.size]? = some (.cells B.zero B.t (0, 0)) := by
        show (w.heap.push _)[w.heap.size]? = _
        simp
      rw [hnew]
      simp
    · rw [upd_ne _ _ _ _ hBA] at hl' ⊢
      rw [upd_ne _ _ _ _ hBA]
      rw [upd_ne _ _ _ _ (fun e => (hok' A hA B hB).2.2 e.symm)]
      obtain ⟨e1, e2, e3⟩ := h3 B hB hl'
      exact ⟨e1, e2, (hb.block _ (Array.getElem?_eq_some_iff.1 e3).1).trans e3⟩
  · have lt : ∀ D ∈ als, D.i ≠ A.i → L D.i = true → β D.i < w.heap.size := fun D hD hn hl' => by
      obtain ⟨_, _, e3⟩ := h3 D hD hl'
      exact (Array.getElem?_eq_some_iff.1 e3).1
    by_cases hBA : B.i = A.i
    · by_cases hCA : C.i = A.i
      · exact absurd (hBA.trans hCA.symm) hne
      · rw [hBA, upd_at, upd_ne _ _ _ _ hCA]
        rw [upd_ne _ _ _ _ hCA] at hc'
        have := lt C hC hCA hc'
        omega
    · by_cases hCA : C.i = A.i
      · rw [hCA, upd_at, upd_ne _ _ _ _ hBA]
        rw [upd_ne _ _ _ _ hBA] at hb'
        have := lt B hB hBA hb'
        omega
      · rw [upd_ne _ _ _ _ hBA, upd_ne _ _ _ _ hCA]
        rw [upd_ne _ _ _ _ hBA] at hb'
        rw [upd_ne _ _ _ _ hCA] at hc'
        exact h4 B hB C hC hb' hc' hne
theorem StdJ.ptr {W w : World} {val : Nat → Option Value} {als : List Alo} {L : Nat → Bool} {V : Nat → Value} (h : StdJ W val als L V w) (A : Alo) (hA : A ∈ als) (hl : L A.i = true) (hs : L A.st = false) :
    ∃ g, V A.i = .pointer (some ⟨g, 0, none⟩) ∧ w.heap[g]? = some (.cells A.zero A.t (0, 0)) := by
  obtain ⟨h1, h2, h5, β, h3, h4⟩ := h
  obtain ⟨e1, e2, e3⟩ := h3 A hA hl
  rw [hs] at e3
  exact ⟨_, e1, by simpa using e3⟩
theorem StdJ.got {W w : World} {val : Nat → Option Value} {als : List Alo} {L : Nat → Bool} {V : Nat → Value} (h : StdJ W val als L V w) (A : Alo) (hA : A ∈ als) (hl : L A.i = true) (hs : L A.st = true) :
    ∃ g, V A.i = .pointer (some ⟨g, 0, none⟩) ∧ W.heap.size ≤ g ∧ w.heap[g]? = some (.cells A.full A.t (0, 0)) := by
  obtain ⟨h1, h2, h5, β, h3, h4⟩ := h
  obtain ⟨e1, e2, e3⟩ := h3 A hA hl
  rw [hs] at e3
  exact ⟨_, e1, e2, by simpa using e3⟩
theorem StdJ.fill {W w : World} {val : Nat → Option Value} {als : List Alo} {L : Nat → Bool} {V : Nat → Value} (h : StdJ W val als L V w) (hok : aloOk als = true) (A : Alo) (hA : A ∈ als) (hl : L A.i = true) (hs : L A.st = false) (hv : val A.st = none) (g : Nat) (hg : V A.i = .pointer (some ⟨g, 0, none⟩)) (v : Value) :
    StdJ W val als (upd L A.st true) (upd V A.st v) (w.setRow g A.full) := by
  have hok' := aloOk_spec hok
  obtain ⟨h1, h2, h5, β, h3, h4⟩ := h
  obtain ⟨e1, e2, e3⟩ := h3 A hA hl
  rw [hs] at e3
  simp only [Bool.false_eq_true, if_false] at e3
  have hgb : g = β A.i := by
    rw [hg] at e1
    injection e1 with e1
    injection e1 with e1
    injection e1
  subst hgb
  have hlt : β A.i < w.heap.size := (Array.getElem?_eq_some_iff.1 e3).1
  have hoth : ∀ k, k ≠ β A.i → (w.setRow (β A.i) A.full).heap[k]? = w.heap[k]? := fun k hk => setRow_other w _ k _ hk
  refine ⟨below_setRow h1 e2 _, fun j u hj hl' => ?_, fun B hB hl' => ?_, β, fun B hB hl' => ?_, fun B hB C hC hb' hc' hne => ?_⟩
  · have hji : j ≠ A.st := fun e => by subst e; rw [hv] at hj; cases hj
    rw [upd_ne _ _ _ _ hji] at hl' ⊢
    exact h2 j u hj hl'
  · rw [upd_ne _ _ _ _ (hok' B hB A hA).2.2]
    by_cases hBA : B.st = A.st
    · obtain rfl : B = A := (hok' B hB A hA).2.1 hBA
      exact hl
    · rw [upd_ne _ _ _ _ hBA] at hl'
      exact h5 B hB hl'
  · have n1 : B.i ≠ A.st := (hok' B hB A hA).2.2
    rw [upd_ne _ _ _ _ n1] at hl' ⊢
    obtain ⟨f1, f2, f3⟩ := h3 B hB hl'
    refine ⟨f1, f2, ?_⟩
    by_cases hBA : B.st = A.st
    · obtain rfl : B = A := (hok' B hB A hA).2.1 hBA
      rw [upd_at, setRow_heap w _ _ B.full _ _ e3]
      simp
    · rw [upd_ne _ _ _ _ hBA]
      have hi : B.i ≠ A.i := fun e => hBA (congrArg Alo.st ((hok' B hB A hA).1 e))
      rw [hoth _ (h4 B hB A hA hl' hl hi)]
      exact f3
  · have n1 : B.i ≠ A.st := (hok' B hB A hA).2.2
    have n2 : C.i ≠ A.st := (hok' C hC A hA).2.2
    rw [upd_ne _ _ _ _ n1] at hb'
    rw [upd_ne _ _ _ _ n2] at hc'
    exact h4 B hB C hC hb' hc' hne
end Go.Proofs.YtgijaaklhdcgeaaGreat

/- the document's ring: back -/
set_option linter.unusedSimpArgs false
set_option linter.unusedVariables false
namespace Go.Proofs.YtgijaaklhdcgeaaGreat
open Go.RowKit Go.Shelf Go.Geo
attribute [local go_sem] Oper.semAt_some
theorem of_below {w w' : World} {b o1 o2 : Nat} {v1 v2 : Value} (hb : Below w.heap.size w w') (e0 : w.cell? ⟨b, o1, none⟩ = some v1) (e1 : w.cell? ⟨b, o2, none⟩ = some v2) : w'.cell? ⟨b, o1, none⟩ = some v1 ∧ w'.cell? ⟨b, o2, none⟩ = some v2 ∧ Below w.heap.size w w' :=
  ⟨(hb.cell (p := ⟨b, o1, none⟩) (block_lt_of_cell e0)).trans e0, (hb.cell (p := ⟨b, o2, none⟩) (block_lt_of_cell e1)).trans e1, hb⟩
set_option maxRecDepth 100000 in
set_option maxHeartbeats 8000000 in
theorem rback_any (ao : Option Addr) (n cap : Nat) (P : List Pt) (k : Nat) (w : World) (h : IsPts w ao n cap P) (hk : k < n) (h3 : 3 ≤ n) (hnb : n ≤ 1000) :
    Calls Tryz.prog 62 #[.slice ao n cap, .int .i64 k] w fun e w' => e = .returned (.bool (backP P k)) ∧ Below w.heap.size w w' := by
  have HI := Lib.hid h
  have HL : Hid (P.length = n) := h.1
  have hn : 0 < n := by omega
  have q1 := Nat.mod_lt (k + n - 1) hn
  have q2 := Nat.mod_lt (k + 1) hn
  have HA : Hid (∀ wX, Below w.heap.size w wX → Calls Tryz.prog 38 #[.slice ao n cap, .int .i64 ((k : Int) - 1)] wX fun e w' => e = .returned (.agg #[.int .i64 (atP P (k + n - 1)).x, .int .i64 (atP P (k + n - 1)).y]) ∧ w' = wX.alloc (.cells #[.int .i64 (atP P (k + n - 1)).x, .int .i64 (atP P (k + n - 1)).y] 40)) := Lib.hid (fun wX hX => by
    unfold atP
    rw [HL.out]
    by_cases h0 : k = 0
    · subst h0
      refine rat_ex ao n cap P _ (-1) _ wX (h.later hX (Nat.le_refl _)) q1 ?_ (by omega) (by omega) ?_ (by omega)
      · rw [show ((0 : Nat) : Int) - 1 = -1 from rfl, Int.neg_tmod, Int.tmod_eq_emod_of_nonneg (by omega), Int.emod_eq_of_lt (by omega) (by omega)]
      · rw [Int.tmod_eq_emod_of_nonneg (by omega), Int.emod_eq_of_lt (by omega) (by omega), Nat.mod_eq_of_lt (by omega)]; omega
    · refine rat_ex ao n cap P _ ((k : Int) - 1) _ wX (h.later hX (Nat.le_refl _)) q1 ?_ (by omega) (by omega) ?_ (by omega)
      · rw [Int.tmod_eq_emod_of_nonneg (by omega), Int.emod_eq_of_lt (by omega) (by omega)]
      · rw [Int.tmod_eq_emod_of_nonneg (by omega), show ((k : Int) - 1 + n) = ((k + n - 1 : Nat) : Int) by omega, Int.natCast_emod])
  have HC : Hid (∀ wX, Below w.heap.size w wX → Calls Tryz.prog 38 #[.slice ao n cap, .int .i64 ((k : Int) + 1)] wX fun e w' => e = .returned (.agg #[.int .i64 (atP P (k + 1)).x, .int .i64 (atP P (k + 1)).y]) ∧ w' = wX.alloc (.cells #[.int .i64 (atP P (k + 1)).x, .int .i64 (atP P (k + 1)).y] 40)) := Lib.hid (fun wX hX => by
    unfold atP
    rw [HL.out]
    refine rat_ex ao n cap P _ (((k + 1) % n : Nat) : Int) _ wX (h.later hX (Nat.le_refl _)) q2 ?_ (by omega) (by omega) ?_ (by omega)
    · rw [Int.tmod_eq_emod_of_nonneg (by omega), Int.natCast_emod]; rfl
    · rw [Int.tmod_eq_emod_of_nonneg (by omega), Int.add_emod_right, Int.emod_eq_of_lt (by omega) (by omega)])
  obtain ⟨b2, off2, rfl, e0, e1⟩ := h.at hk
  obtain ⟨r, hr⟩ : ∃ r, r = backP P k := ⟨_, rfl⟩
  rw [← hr]
  unfold backP at hr
  rw [HL.out] at hr
  obtain ⟨a, ha⟩ : ∃ x, x = atP P (k + n - 1) := ⟨_, rfl⟩
  obtain ⟨b, hb⟩ : ∃ x, x = P.getD k p0 := ⟨_, rfl⟩
  obtain ⟨c, hc⟩ : ∃ x, x = atP P (k + 1) := ⟨_, rfl⟩
  rw [← ha] at HA hr
  rw [← hb] at e0 e1 hr
  rw [← hc] at HC hr
  have HR := Lib.hid hr
  have k0 : (0 : Int) ≤ (k : Int) := by omega
  have k1 : (k : Int) < (n : Int) := by omega
  have w1 : IntKind.i64.wrap ((k : Int) - 1) = (k : Int) - 1 := IntWalk.i64_in _ (by omega)
  have w2 : IntKind.i64.wrap ((k : Int) + 1) = (k : Int) + 1 := IntWalk.i64_in _ (by omega)
  have HE := Lib.hid (And.intro e0 e1)
  clear h hr ha hb hc q1 q2
  go_enter Tryz.func62, Tryz.ntmps62
  go_upto_region 2 with fail
  go_cut [5, 6, 7] (fun s5 s6 s7 wc => ∃ g5 g6 g7, s5 = .pointer (some ⟨g5, 0, none⟩) ∧ s6 = .pointer (some ⟨g6, 0, none⟩) ∧ s7 = .pointer (some ⟨g7, 0, none⟩) ∧ Hid (wc.heap[g5]? = some (.cells #[.int .i64 a.x, .int .i64 a.y] 40 (0, 0)) ∧ wc.heap[g6]? = some (.cells #[.int .i64 b.x, .int .i64 b.y] 40 (0, 0)) ∧ wc.heap[g7]? = some (.cells #[.int .i64 c.x, .int .i64 c.y] 40 (0, 0)) ∧ Below w.heap.size w wc))
  case first =>
    go_wp2_with fail
    refine wp_region_J (s := [(8, 0), (9, 1), (10, 2), (11, 3), (12, 4), (13, 5), (14, 6), (15, 7), (16, 8), (17, 9), (18, 10), (19, 11), (5, 12), (6, 13), (7, 14)]) (by kernel_rfl) (StdJ w (fun iX => match iX with | 0 => some (.slice (some ⟨b2, off2, none⟩) n cap) | 1 => some (.int .i64 (k : Int)) | 2 => some (.int .i64 ((k : Int) - 1)) | 3 => some (.agg #[.int .i64 a.x, .int .i64 a.y]) | 4 => some (.slice (some ⟨b2, off2, none⟩) n cap) | 5 => some (.int .i64 (k : Int)) | 6 => some (.pointer (some ⟨b2, off2 + k * 2, none⟩)) | 7 => some (.agg #[.int .i64 b.x, .int .i64 b.y]) | 8 => some (.slice (some ⟨b2, off2, none⟩) n cap) | 9 => some (.int .i64 (k : Int)) | 10 => some (.int .i64 ((k : Int) + 1)) | 11 => some (.agg #[.int .i64 c.x, .int .i64 c.y]) | _ => none) [⟨12, 15, 40, #[.int .i64 0, .int .i64 0], #[.int .i64 a.x, .int .i64 a.y]⟩, ⟨13, 16, 40, #[.int .i64 0, .int .i64 0], #[.int .i64 b.x, .int .i64 b.y]⟩, ⟨14, 17, 40, #[.int .i64 0, .int .i64 0], #[.int .i64 c.x, .int .i64 c.y]⟩]) (by kernel_rfl) (by kernel_rfl) (by kernel_rfl) (by kernel_rfl) (fun _ => undef) ?start ?step ?done
    case start => exact StdJ.start ((Below.refl _ _).drew)
    case step =>
      refine ⟨?o0, ?o1, ?o2, ?o3, ?o4, ?o5, ?o6, ?o7, ?o8, ?o9, ?o10, ?o11, ?o12, ?o13, ?o14, ?o15, ?o16, ?o17, trivial⟩
      case o0 =>
        intro L V aX wX K hl hp hcl hf hJ hK
        have t0 : aX.tmps[0]? = some (.slice (some ⟨b2, off2, none⟩) n cap) := hf.old (by kernel_rfl) rfl
        rw [if_pos (by rfl)]
        go_simp
        exact hK _ _ (hJ.val (Below.refl _ _) 0 _ (by kernel_rfl) rfl)
      case o1 =>
        intro L V aX wX K hl hp hcl hf hJ hK
        have t1 : aX.tmps[1]? = some (.int .i64 (k : Int)) := hf.old (by kernel_rfl) rfl
        rw [if_pos (by rfl)]
        go_simp
        exact hK _ _ (hJ.val (Below.refl _ _) 1 _ (by kernel_rfl) rfl)
      case o2 =>
        intro L V aX wX K hl hp hcl hf hJ hK
        have t9 := hf.in (i := 1) (d := 9) (by kernel_rfl) (hp 1 (by kernel_rfl)) (hJ.vals 1 _ rfl (hp 1 (by kernel_rfl)))
        rw [if_pos (by rfl)]
        go_simp
        exact hK _ _ (hJ.val (Below.refl _ _) 2 _ (by kernel_rfl) rfl)
      case o3 =>
        intro L V aX wX K hl hp hcl hf hJ hK
        have t8 := hf.in (i := 0) (d := 8) (by kernel_rfl) (hp 0 (by kernel_rfl)) (hJ.vals 0 _ rfl (hp 0 (by kernel_rfl)))
        have t10 := hf.in (i := 2) (d := 10) (by kernel_rfl) (hp 2 (by kernel_rfl)) (hJ.vals 2 _ rfl (hp 2 (by kernel_rfl)))
        rw [if_pos (by rfl)]
        go_simp
        refine (HA.out _ hJ.below).mono ?_
        rintro e wA ⟨rfl, rfl⟩
        exact hK _ _ (hJ.val ((Below.refl _ _).alloc (Nat.le_refl _) _) 3 _ (by kernel_rfl) rfl)
      case o4 =>
        intro L V aX wX K hl hp hcl hf hJ hK
        have t0 : aX.tmps[0]? = some (.slice (some ⟨b2, off2, none⟩) n cap) := hf.old (by kernel_rfl) rfl
        rw [if_pos (by rfl)]
        go_simp
        exact hK _ _ (hJ.val (Below.refl _ _) 4 _ (by kernel_rfl) rfl)
      case o5 =>
        intro L V aX wX K hl hp hcl hf hJ hK
        have t1 : aX.tmps[1]? = some (.int .i64 (k : Int)) := hf.old (by kernel_rfl) rfl
        rw [if_pos (by rfl)]
        go_simp
        exact hK _ _ (hJ.val (Below.refl _ _) 5 _ (by kernel_rfl) rfl)
      case o6 =>
        intro L V aX wX K hl hp hcl hf hJ hK
        have t12 := hf.in (i := 4) (d := 12) (by kernel_rfl) (hp 4 (by kernel_rfl)) (hJ.vals 4 _ rfl (hp 4 (by kernel_rfl)))
        have t13 := hf.in (i := 5) (d := 13) (by kernel_rfl) (hp 5 (by kernel_rfl)) (hJ.vals 5 _ rfl (hp 5 (by kernel_rfl)))
        rw [if_pos (by rfl)]
        go_simp
        exact hK _ _ (hJ.val (Below.refl _ _) 6 _ (by kernel_rfl) rfl)
      case o7 =>
        intro L V aX wX K hl hp hcl hf hJ hK
        have t14 := hf.in (i := 6) (d := 14) (by kernel_rfl) (hp 6 (by kernel_rfl)) (hJ.vals 6 _ rfl (hp 6 (by kernel_rfl)))
        obtain ⟨c0, c1, _⟩ := of_below hJ.below HE.out.1 HE.out.2
        rw [if_pos (by rfl)]
        go_simp
        exact hK _ _ (hJ.val (Below.refl _ _) 7 _ (by kernel_rfl) rfl)
      case o8 =>
        intro L V aX wX K hl hp hcl hf hJ hK
        have t0 : aX.tmps[0]? = some (.slice (some ⟨b2, off2, none⟩) n cap) := hf.old (by kernel_rfl) rfl
        rw [if_pos (by rfl)]
        go_simp
        exact hK _ _ (hJ.val (Below.refl _ _) 8 _ (by kernel_rfl) rfl)
      case o9 =>
        intro L V aX wX K hl hp hcl hf hJ hK
        have t1 : aX.tmps[1]? = some (.int .i64 (k : Int)) := hf.old (by kernel_rfl) rfl
        rw [if_pos (by rfl)]
        go_simp
        exact hK _ _ (hJ.val (Below.refl _ _) 9 _ (by kernel_rfl) rfl)
      case o10 =>
        intro L V aX wX K hl hp hcl hf hJ hK
        have t17 := hf.in (i := 9) (d := 17) (by kernel_rfl) (hp 9 (by kernel_rfl)) (hJ.vals 9 _ rfl (hp 9 (by kernel_rfl)))
        rw [if_pos (by rfl)]
        go_simp
        exact hK _ _ (hJ.val (Below.refl _ _) 10 _ (by kernel_rfl) rfl)
      case o11 =>
        intro L V aX wX K hl hp hcl hf hJ hK
        have t16 := hf.in (i := 8) (d := 16) (by kernel_rfl) (hp 8 (by kernel_rfl)) (hJ.vals 8 _ rfl (hp 8 (by kernel_rfl)))
        have t18 := hf.in (i := 10) (d := 18) (by kernel_rfl) (hp 10 (by kernel_rfl)) (hJ.vals 10 _ rfl (hp 10 (by kernel_rfl)))
        rw [if_pos (by rfl)]
        go_simp
        refine (HC.out _ hJ.below).mono ?_
        rintro e wA ⟨rfl, rfl⟩
        exact hK _ _ (hJ.val ((Below.refl _ _).alloc (Nat.le_refl _) _) 11 _ (by kernel_rfl) rfl)
      case o12 =>
        intro L V aX wX K hl hp hcl hf hJ hK
        rw [if_pos (by rfl)]
        go_simp
        exact hK _ _ (hJ.alloc (by kernel_rfl) ⟨12, 15, 40, #[.int .i64 0, .int .i64 0], #[.int .i64 a.x, .int .i64 a.y]⟩ (by simp) hl rfl)
      case o13 =>
        intro L V aX wX K hl hp hcl hf hJ hK
        rw [if_pos (by rfl)]
        go_simp
        exact hK _ _ (hJ.alloc (by kernel_rfl) ⟨13, 16, 40, #[.int .i64 0, .int .i64 0], #[.int .i64 b.x, .int .i64 b.y]⟩ (by simp) hl rfl)
      case o14 =>
        intro L V aX wX K hl hp hcl hf hJ hK
        rw [if_pos (by rfl)]
        go_simp
        exact hK _ _ (hJ.alloc (by kernel_rfl) ⟨14, 17, 40, #[.int .i64 0, .int .i64 0], #[.int .i64 c.x, .int .i64 c.y]⟩ (by simp) hl rfl)
      case o15 =>
        intro L V aX wX K hl hp hcl hf hJ hK
        have t11 := hf.in (i := 3) (d := 11) (by kernel_rfl) (hp 3 (by kernel_rfl)) (hJ.vals 3 _ rfl (hp 3 (by kernel_rfl)))
        rw [if_pos (by rfl)]
        obtain ⟨g, hg, hg2⟩ := hJ.ptr ⟨12, 15, 40, #[.int .i64 0, .int .i64 0], #[.int .i64 a.x, .int .i64 a.y]⟩ (by simp) (hp 12 (by kernel_rfl)) hl
        have tp := hf.in (i := 12) (d := 5) (by kernel_rfl) (hp 12 (by kernel_rfl)) hg
        refine wp_store_row _ _ _ rfl g #[.int .i64 a.x, .int .i64 a.y] (by simp [Act.eval, tp]) (by simp [Act.eval, t11]) _ _ hg2 (by kernel_rfl) rfl (by kernel_rfl) ?_
        exact hK _ _ (hJ.fill (by kernel_rfl) ⟨12, 15, 40, #[.int .i64 0, .int .i64 0], #[.int .i64 a.x, .int .i64 a.y]⟩ (by simp) (hp 12 (by kernel_rfl)) hl rfl g hg _)
      case o16 =>
        intro L V aX wX K hl hp hcl hf hJ hK
        have t15 := hf.in (i := 7) (d := 15) (by kernel_rfl) (hp 7 (by kernel_rfl)) (hJ.vals 7 _ rfl (hp 7 (by kernel_rfl)))
        rw [if_pos (by rfl)]
        obtain ⟨g, hg, hg2⟩ := hJ.ptr ⟨13, 16, 40, #[.int .i64 0, .int .i64 0], #[.int .i64 b.x, .int .i64 b.y]⟩ (by simp) (hp 13 (by kernel_rfl)) hl
        have tp := hf.in (i := 13) (d := 6) (by kernel_rfl) (hp 13 (by kernel_rfl)) hg
        refine wp_store_row _ _ _ rfl g #[.int .i64 b.x, .int .i64 b.y] (by simp [Act.eval, tp]) (by simp [Act.eval, t15]) _ _ hg2 (by kernel_rfl) rfl (by kernel_rfl) ?_
        exact hK _ _ (hJ.fill (by kernel_rfl) ⟨13, 16, 40, #[.int .i64 0, .int .i64 0], #[.int .i64 b.x, .int .i64 b.y]⟩ (by simp) (hp 13 (by kernel_rfl)) hl rfl g hg _)
      case o17 =>
        intro L V aX wX K hl hp hcl hf hJ hK
        have t19 := hf.in (i := 11) (d := 19) (by kernel_rfl) (hp 11 (by kernel_rfl)) (hJ.vals 11 _ rfl (hp 11 (by kernel_rfl)))
        rw [if_pos (by rfl)]
        obtain ⟨g, hg, hg2⟩ := hJ.ptr ⟨14, 17, 40, #[.int .i64 0, .int .i64 0], #[.int .i64 c.x, .int .i64 c.y]⟩ (by simp) (hp 14 (by kernel_rfl)) hl
        have tp := hf.in (i := 14) (d := 7) (by kernel_rfl) (hp 14 (by kernel_rfl)) hg
        refine wp_store_row _ _ _ rfl g #[.int .i64 c.x, .int .i64 c.y] (by simp [Act.eval, tp]) (by simp [Act.eval, t19]) _ _ hg2 (by kernel_rfl) rfl (by kernel_rfl) ?_
        exact hK _ _ (hJ.fill (by kernel_rfl) ⟨14, 17, 40, #[.int .i64 0, .int .i64 0], #[.int .i64 c.x, .int .i64 c.y]⟩ (by simp) (hp 14 (by kernel_rfl)) hl rfl g hg _)
    intro V wZ hJ
    obtain ⟨g5, hv5, _, hg5⟩ := hJ.got ⟨12, 15, 40, #[.int .i64 0, .int .i64 0], #[.int .i64 a.x, .int .i64 a.y]⟩ (by simp) (by kernel_rfl) (by kernel_rfl)
    obtain ⟨g6, hv6, _, hg6⟩ := hJ.got ⟨13, 16, 40, #[.int .i64 0, .int .i64 0], #[.int .i64 b.x, .int .i64 b.y]⟩ (by simp) (by kernel_rfl) (by kernel_rfl)
    obtain ⟨g7, hv7, _, hg7⟩ := hJ.got ⟨14, 17, 40, #[.int .i64 0, .int .i64 0], #[.int .i64 c.x, .int .i64 c.y]⟩ (by simp) (by kernel_rfl) (by kernel_rfl)
    have HZ : Hid (wZ.heap[g5]? = some (.cells #[.int .i64 a.x, .int .i64 a.y] 40 (0, 0)) ∧ wZ.heap[g6]? = some (.cells #[.int .i64 b.x, .int .i64 b.y] 40 (0, 0)) ∧ wZ.heap[g7]? = some (.cells #[.int .i64 c.x, .int .i64 c.y] 40 (0, 0)) ∧ Below w.heap.size w wZ) := Lib.hid ⟨hg5, hg6, hg7, hJ.below⟩
    simp only [puts, Act.put, List.setIfInBounds_toArray, List.set_cons_zero, List.set_cons_succ]
    rw [hv5, hv6, hv7]
    clear hJ hv5 hv6 hv7 hg5 hg6 hg7
    go_wp2_with fail
    go_meet
    exact ⟨g5, g6, g7, rfl, rfl, rfl, HZ⟩
  case rest =>
    obtain ⟨g5, g6, g7, rfl, rfl, rfl, HZ⟩ := hcut
    obtain ⟨a0, a1, _, _⟩ := pt_cells HZ.out.1
    obtain ⟨b0, b1, _, _⟩ := pt_cells HZ.out.2.1
    obtain ⟨c0, c1, _, _⟩ := pt_cells HZ.out.2.2.1
    have HT := Lib.hid (rTurn_any a b c)
    have HO := Lib.hid (rOn_any b a c)
    obtain ⟨t, ht⟩ : ∃ t, t = turnP a b c := ⟨_, rfl⟩
    obtain ⟨o, ho⟩ : ∃ t, t = onP b a c := ⟨_, rfl⟩
    rw [← ht] at HT
    rw [← ho] at HO
    have HRR : Hid (r = (decide (t = 0) && !o)) := Lib.hid (by rw [HR.out, ht, ho])
    unfold ptV at HT HO
    clear ht ho e0 e1
    by_cases ht : t = 0
    · subst ht
      go_wp2_with fail
      refine (HT.out _).mono ?_
      rintro e w2 ⟨rfl, hg2⟩
      have e2 := cell_of_row
      have HZ2 : Hid (w2.heap[g5]? = some (.cells #[.int .i64 a.x, .int .i64 a.y] 40 (0, 0)) ∧ w2.heap[g6]? = some (.cells #[.int .i64 b.x, .int .i64 b.y] 40 (0, 0)) ∧ w2.heap[g7]? = some (.cells #[.int .i64 c.x, .int .i64 c.y] 40 (0, 0)) ∧ Below w.heap.size w w2) := Lib.hid ⟨(hg2.1.block _ (heap_lt' HZ.out.1)).trans HZ.out.1, (hg2.1.block _ (heap_lt' HZ.out.2.1)).trans HZ.out.2.1, (hg2.1.block _ (heap_lt' HZ.out.2.2.1)).trans HZ.out.2.2.1, HZ.out.2.2.2.trans (hg2.1.mono HZ.out.2.2.2.size)⟩
      clear a0 a1 b0 b1 c0 c1 hg2 e2
      obtain ⟨a0, a1, _, _⟩ := pt_cells HZ2.out.1
      obtain ⟨b0, b1, _, _⟩ := pt_cells HZ2.out.2.1
      obtain ⟨c0, c1, _, _⟩ := pt_cells HZ2.out.2.2.1
      go_wp2_with fail
      refine (HO.out _).mono ?_
      rintro e w3 ⟨rfl, hg3⟩
      have HB : Hid (Below w.heap.size w w3) := Lib.hid (HZ2.out.2.2.2.trans (hg3.1.mono HZ2.out.2.2.2.size))
      clear hg3 a0 a1 b0 b1 c0 c1
      go_wp2_with fail
      go_ret
      exact ⟨by rw [HRR.out]; rfl, HB.out⟩
    · have hz1 : (t == 0) = false := by simp [ht]
      have HT0 := Lib.hid ht
      clear ht
      go_wp2_with fail
      refine (HT.out _).mono ?_
      rintro e w2 ⟨rfl, hg2⟩
      have HB : Hid (Below w.heap.size w w2) := Lib.hid (HZ.out.2.2.2.trans (hg2.1.mono HZ.out.2.2.2.size))
      clear hg2 a0 a1 b0 b1 c0 c1
      go_wp2_with fail
      go_ret
      exact ⟨by rw [HRR.out, decide_eq_false HT0.out]; rfl, HB.out⟩
end Go.Proofs.YtgijaaklhdcgeaaGreat

/- the document's region: meet -/
set_option linter.unusedSimpArgs false
set_option linter.unusedVariables false
namespace Go.Proofs.YtgijaaklhdcgeaaGreat
open Go.RowKit Go.Shelf Go.Geo
attribute [local go_sem] Oper.semAt_some
theorem meetK_le (a b c d : Pt) : meetK a b c d ≤ 3 := by
  unfold meetK
  split
  · split
    · split <;> omega
    · omega
    · omega
  · omega
theorem eight_stepB {W w1 w2 : World} {B1 B2 o1 o2 o3 o4 o5 o6 o7 o8 : Nat} {v1 v2 v3 v4 v5 v6 v7 v8 : Value} (hb : Below w1.heap.size w1 w2)
    (h1 : w1.cell? ⟨B1, o1, none⟩ = some v1) (h2 : w1.cell? ⟨B1, o2, none⟩ = some v2) (h3 : w1.cell? ⟨B1, o3, none⟩ = some v3) (h4 : w1.cell? ⟨B1, o4, none⟩ = some v4)
    (h5 : w1.cell? ⟨B2, o5, none⟩ = some v5) (h6 : w1.cell? ⟨B2, o6, none⟩ = some v6) (h7 : w1.cell? ⟨B2, o7, none⟩ = some v7) (h8 : w1.cell? ⟨B2, o8, none⟩ = some v8) (h9 : Below W.heap.size W w1) :
    w2.cell? ⟨B1, o1, none⟩ = some v1 ∧ w2.cell? ⟨B1, o2, none⟩ = some v2 ∧ w2.cell? ⟨B1, o3, none⟩ = some v3 ∧ w2.cell? ⟨B1, o4, none⟩ = some v4 ∧ w2.cell? ⟨B2, o5, none⟩ = some v5 ∧ w2.cell? ⟨B2, o6, none⟩ = some v6 ∧ w2.cell? ⟨B2, o7, none⟩ = some v7 ∧ w2.cell? ⟨B2, o8, none⟩ = some v8 ∧ Below W.heap.size W w2 := by
  have k : ∀ {B o : Nat} {v : Value}, w1.cell? ⟨B, o, none⟩ = some v → w2.cell? ⟨B, o, none⟩ = some v := fun {B o v} h => (hb.cell (p := ⟨B, o, none⟩) (block_lt_of_cell h)).trans h
  exact ⟨k h1, k h2, k h3, k h4, k h5, k h6, k h7, k h8, h9.trans (hb.mono h9.size)⟩
set_option maxRecDepth 100000 in
set_option maxHeartbeats 4000000 in
theorem rmeet_any (ao : Option Addr) (n cap : Nat) (P : List Pt) (bo : Option Addr) (m cap2 : Nat) (Q : List Pt) (w : World) (h : IsPts w ao n cap P) (h2 : IsPts w bo m cap2 Q) :
    Calls Tryz.prog 37 #[.slice ao n cap, .slice bo m cap2] w fun e w' => e = .returned (.bool (ringsMeet P Q)) ∧ Below w.heap.size w w' := by
  have HI := Lib.hid h
  have HI2 := Lib.hid h2
  have HL : Hid (P.length = n) := h.1
  have HL2 : Hid (Q.length = m) := h2.1
  have hcm := h.2.2.1
  have hnc := h.2.1
  have hcm2 := h2.2.2.1
  have hnc2 := h2.2.1
  unfold maxLen at hcm hcm2
  obtain ⟨f, hf⟩ : ∃ f : Nat → Nat → Bool, f = fun i k => decide (2 ≤ meetK (P.getD i p0) (atP P (i + 1)) (Q.getD k p0) (atP Q (k + 1))) := ⟨_, rfl⟩
  obtain ⟨r, hr⟩ : ∃ r, r = ringsMeet P Q := ⟨_, rfl⟩
  rw [← hr]
  have hr2 : r = (List.range n).any fun i => (List.range m).any fun k => f i k := by rw [hr, hf, ← HL.out, ← HL2.out]; rfl
  have HR := Lib.hid hr2
  have HF := Lib.hid hf
  clear h h2 hr hf hr2
  go_enter Tryz.func37, Tryz.ntmps37
  go_wp2
  go_loopw [5] (fun i wr => ∃ k : Nat, k ≤ n ∧ i = .int .i64 k ∧ Hid (∀ s t, s < k → t < m → f s t = false) ∧ Hid (Below w.heap.size w wr)) (fun i _ => n - (intOf i).toNat)
  case atStart => exact ⟨0, by omega, rfl, Lib.hid (fun s t hs => absurd hs (by omega)), Below.refl _ _⟩
  case round =>
    obtain ⟨i, hi, rfl, hno, hg⟩ := hrel
    obtain ⟨wo, hwo⟩ : ∃ wo, wo = wr := ⟨_, rfl⟩
    subst hwo
    by_cases hlt : i < n
    · have i0 : (0 : Int) ≤ (i : Int) := by omega
      have i1 : (i : Int) < (n : Int) := by omega
      go_wp2_with fail
      go_loopw [6] (fun j wi => ∃ k : Nat, k ≤ m ∧ j = .int .i64 k ∧ Hid (∀ t, t < k → f i t = false) ∧ Hid (Below w.heap.size w wi)) (fun j _ => m - (intOf j).toNat)
      case atStart => exact ⟨0, by omega, rfl, Lib.hid (fun t ht => absurd ht (by omega)), hg⟩
      case round =>
        obtain ⟨k, hk, rfl, hno2, hg2⟩ := hrel
        by_cases hlt2 : k < m
        · have k0 : (0 : Int) ≤ (k : Int) := by omega
          have k1 : (k : Int) < (m : Int) := by omega
          have hp1 := HI.out.later hg2.out (Nat.le_refl _)
          have hp2 := HI2.out.later hg2.out (Nat.le_refl _)
          have hm1 : (i + 1) % n < n := Nat.mod_lt _ (by omega)
          have hm2 : (k + 1) % m < m := Nat.mod_lt _ (by omega)
          obtain ⟨b2, off2, rfl, e0, e1⟩ := hp1.at hlt
          obtain ⟨b3, off3, hbo, e2, e3⟩ := hp1.at hm1
          cases hbo
          obtain ⟨b4, off4, rfl, f0, f1⟩ := hp2.at hlt2
          obtain ⟨b5, off5, hbo, f2, f3⟩ := hp2.at hm2
          cases hbo
          obtain ⟨x, hx⟩ : ∃ x, x = P.getD i p0 := ⟨_, rfl⟩
          obtain ⟨x2, hx2⟩ : ∃ x, x = atP P (i + 1) := ⟨_, rfl⟩
          obtain ⟨y, hy⟩ : ∃ y, y = Q.getD k p0 := ⟨_, rfl⟩
          obtain ⟨y2, hy2⟩ : ∃ y, y = atP Q (k + 1) := ⟨_, rfl⟩
          have hxe : P.getD ((i + 1) % n) p0 = x2 := by rw [hx2]; unfold atP; rw [HL.out]
          have hye : Q.getD ((k + 1) % m) p0 = y2 := by rw [hy2]; unfold atP; rw [HL2.out]
          rw [← hx] at e0 e1
          rw [hxe] at e2 e3
          rw [← hy] at f0 f1
          rw [hye] at f2 f3
          obtain ⟨q, hq⟩ : ∃ q, q = (i + 1) % n := ⟨_, rfl⟩
          obtain ⟨u, hu⟩ : ∃ q, q = (k + 1) % m := ⟨_, rfl⟩
          rw [← hq] at e2 e3 hm1
          rw [← hu] at f2 f3 hm2
          have hq0 : (0 : Int) ≤ (q : Int) := by omega
          have hq1 : (q : Int) < (n : Int) := by omega
          have hu0 : (0 : Int) ≤ (u : Int) := by omega
          have hu1 : (u : Int) < (m : Int) := by omega
          have hrem : Int.tmod ((i : Int) + 1) (n : Int) = (q : Int) := by
            rw [Int.tmod_eq_emod_of_nonneg (by omega), hq, Int.natCast_emod]; rfl
          have hrem2 : ((i : Int) + 1) % (n : Int) = (q : Int) := by rw [hq, Int.natCast_emod]; rfl
          have hrem3 : Int.tmod ((k : Int) + 1) (m : Int) = (u : Int) := by
            rw [Int.tmod_eq_emod_of_nonneg (by omega), hu, Int.natCast_emod]; rfl
          have hrem4 : ((k : Int) + 1) % (m : Int) = (u : Int) := by rw [hu, Int.natCast_emod]; rfl
          have hz : ((n : Int) == 0) = false := by simp; omega
          have hz2 : ¬ (n : Int) = 0 := by omega
          have hz3 : ((m : Int) == 0) = false := by simp; omega
          have hz4 : ¬ (m : Int) = 0 := by omega
          have hwr : IntKind.i64.wrap ((i : Int) + 1) = (i : Int) + 1 := IntWalk.i64_in _ (by omega)
          have hwk : IntKind.i64.wrap ((k : Int) + 1) = (k : Int) + 1 := IntWalk.i64_in _ (by omega)
          have hkp : (0 : Int) ≤ (i : Int) + 1 := by omega
          have hkp2 : (0 : Int) ≤ (k : Int) + 1 := by omega
          have HM := Lib.hid (rMeets_any x x2 y y2)
          have hle := meetK_le x x2 y y2
          obtain ⟨c, hc⟩ : ∃ m, m = meetK x x2 y y2 := ⟨_, rfl⟩
          rw [← hc] at HM hle
          have HFC : Hid (f i k = decide (2 ≤ c)) := Lib.hid (by rw [HF.out, hc, hx, hx2, hy, hy2])
          unfold ptV at HM
          have HIK := Lib.hid (And.intro hlt hlt2)
          clear hx hx2 hy hy2 hxe hye hq hu hc hp1 hp2 hm1 hm2
          go_wp2_with fail
          have HCELLS : Hid (∀ wX, Below wr.heap.size wr wX → wX.cell? ⟨b2, off2 + i * 2, none⟩ = some (.int .i64 x.x) ∧ wX.cell? ⟨b2, off2 + i * 2 + 1, none⟩ = some (.int .i64 x.y) ∧ wX.cell? ⟨b2, off2 + q * 2, none⟩ = some (.int .i64 x2.x) ∧ wX.cell? ⟨b2, off2 + q * 2 + 1, none⟩ = some (.int .i64 x2.y) ∧ wX.cell? ⟨b4, off4 + k * 2, none⟩ = some (.int .i64 y.x) ∧ wX.cell? ⟨b4, off4 + k * 2 + 1, none⟩ = some (.int .i64 y.y) ∧ wX.cell? ⟨b4, off4 + u * 2, none⟩ = some (.int .i64 y2.x) ∧ wX.cell? ⟨b4, off4 + u * 2 + 1, none⟩ = some (.int .i64 y2.y)) := Lib.hid (fun wX hX => by
            have kk : ∀ {B o : Nat} {v : Value}, wr.cell? ⟨B, o, none⟩ = some v → wX.cell? ⟨B, o, none⟩ = some v := fun {B o v} h => (hX.cell (p := ⟨B, o, none⟩) (block_lt_of_cell h)).trans h
            exact ⟨kk e0, kk e1, kk e2, kk e3, kk f0, kk f1, kk f2, kk f3⟩)
          clear e0 e1 e2 e3 f0 f1 f2 f3
          refine wp_region_J (s := [(20, 0), (21, 1), (22, 2), (23, 3), (24, 4), (25, 5), (26, 6), (27, 7), (28, 8), (29, 9), (30, 10), (31, 11), (32, 12), (33, 13), (34, 14), (35, 15), (36, 16), (37, 17), (38, 18), (39, 19), (40, 20), (41, 21), (42, 22), (43, 23), (44, 24), (7, 25)]) (by kernel_rfl) (StdJ wr (fun iX => match iX with | 0 => some (.slice (some ⟨b2, off2, none⟩) n cap) | 1 => some (.int .i64 (i : Int)) | 2 => some (.pointer (some ⟨b2, off2 + i * 2, none⟩)) | 3 => some (.agg #[.int .i64 x.x, .int .i64 x.y]) | 4 => some (.slice (some ⟨b2, off2, none⟩) n cap) | 5 => some (.int .i64 (i : Int)) | 6 => some (.int .i64 ((i : Int) + 1)) | 7 => some (.slice (some ⟨b2, off2, none⟩) n cap) | 8 => some (.int .i64 (n : Int)) | 9 => some (.int .i64 (q : Int)) | 10 => some (.pointer (some ⟨b2, off2 + q * 2, none⟩)) | 11 => some (.agg #[.int .i64 x2.x, .int .i64 x2.y]) | 12 => some (.slice (some ⟨b4, off4, none⟩) m cap2) | 13 => some (.int .i64 (k : Int)) | 14 => some (.pointer (some ⟨b4, off4 + k * 2, none⟩)) | 15 => some (.agg #[.int .i64 y.x, .int .i64 y.y]) | 16 => some (.slice (some ⟨b4, off4, none⟩) m cap2) | 17 => some (.int .i64 (k : Int)) | 18 => some (.int .i64 ((k : Int) + 1)) | 19 => some (.slice (some ⟨b4, off4, none⟩) m cap2) | 20 => some (.int .i64 (m : Int)) | 21 => some (.int .i64 (u : Int)) | 22 => some (.pointer (some ⟨b4, off4 + u * 2, none⟩)) | 23 => some (.agg #[.int .i64 y2.x, .int .i64 y2.y]) | 24 => some (.int .i64 (c : Int)) | 25 => some (.int .i64 (c : Int)) | _ => none) []) (by kernel_rfl) (by kernel_rfl) (by kernel_rfl) (by kernel_rfl) (fun _ => undef) ?start ?step ?done
          case start => exact StdJ.start ((Below.refl _ _).drew)
          case step =>
            refine ⟨?o0, ?o1, ?o2, ?o3, ?o4, ?o5, ?o6, ?o7, ?o8, ?o9, ?o10, ?o11, ?o12, ?o13, ?o14, ?o15, ?o16, ?o17, ?o18, ?o19, ?o20, ?o21, ?o22, ?o23, ?o24, ?o25, trivial⟩
            case o0 =>
              intro L V aX wX K hl hp hcl hf hJ hK
              have t0 : aX.tmps[0]? = some (.slice (some ⟨b2, off2, none⟩) n cap) := hf.old (by kernel_rfl) rfl
              rw [if_pos (by rfl)]
              go_simp
              exact hK _ _ (hJ.val (Below.refl _ _) 0 _ (by kernel_rfl) rfl)
            case o1 =>
              intro L V aX wX K hl hp hcl hf hJ hK
              have t5 : aX.tmps[5]? = some (.int .i64 (i : Int)) := hf.old (by kernel_rfl) rfl
              rw [if_pos (by rfl)]
              go_simp
              exact hK _ _ (hJ.val (Below.refl _ _) 1 _ (by kernel_rfl) rfl)
            case o2 =>
              intro L V aX wX K hl hp hcl hf hJ hK
              have t20 := hf.in (i := 0) (d := 20) (by kernel_rfl) (hp 0 (by kernel_rfl)) (hJ.vals 0 _ rfl (hp 0 (by kernel_rfl)))
              have t21 := hf.in (i := 1) (d := 21) (by kernel_rfl) (hp 1 (by kernel_rfl)) (hJ.vals 1 _ rfl (hp 1 (by kernel_rfl)))
              rw [if_pos (by rfl)]
              go_simp
              exact hK _ _ (hJ.val (Below.refl _ _) 2 _ (by kernel_rfl) rfl)
            case o3 =>
              intro L V aX wX K hl hp hcl hf hJ hK
              have t22 := hf.in (i := 2) (d := 22) (by kernel_rfl) (hp 2 (by kernel_rfl)) (hJ.vals 2 _ rfl (hp 2 (by kernel_rfl)))
              obtain ⟨c0, c1, c2, c3, c4, c5, c6, c7⟩ := HCELLS.out wX hJ.below
              rw [if_pos (by rfl)]
              go_simp
              exact hK _ _ (hJ.val (Below.refl _ _) 3 _ (by kernel_rfl) rfl)
            case o4 =>
              intro L V aX wX K hl hp hcl hf hJ hK
              have t0 : aX.tmps[0]? = some (.slice (some ⟨b2, off2, none⟩) n cap) := hf.old (by kernel_rfl) rfl
              rw [if_pos (by rfl)]
              go_simp
              exact hK _ _ (hJ.val (Below.refl _ _) 4 _ (by kernel_rfl) rfl)
            case o5 =>
              intro L V aX wX K hl hp hcl hf hJ hK
              have t5 : aX.tmps[5]? = some (.int .i64 (i : Int)) := hf.old (by kernel_rfl) rfl
              rw [if_pos (by rfl)]
              go_simp
              exact hK _ _ (hJ.val (Below.refl _ _) 5 _ (by kernel_rfl) rfl)
            case o6 =>
              intro L V aX wX K hl hp hcl hf hJ hK
              have t25 := hf.in (i := 5) (d := 25) (by kernel_rfl) (hp 5 (by kernel_rfl)) (hJ.vals 5 _ rfl (hp 5 (by kernel_rfl)))
              rw [if_pos (by rfl)]
              go_simp
              exact hK _ _ (hJ.val (Below.refl _ _) 6 _ (by kernel_rfl) rfl)
            case o7 =>
              intro L V aX wX K hl hp hcl hf hJ hK
              have t0 : aX.tmps[0]? = some (.slice (some ⟨b2, off2, none⟩) n cap) := hf.old (by kernel_rfl) rfl
              rw [if_pos (by rfl)]
              go_simp
              exact hK _ _ (hJ.val (Below.refl _ _) 7 _ (by kernel_rfl) rfl)
            case o8 =>
              intro L V aX wX K hl hp hcl hf hJ hK
              have t27 := hf.in (i := 7) (d := 27) (by kernel_rfl) (hp 7 (by kernel_rfl)) (hJ.vals 7 _ rfl (hp 7 (by kernel_rfl)))
              rw [if_pos (by rfl)]
              go_simp
              exact hK _ _ (hJ.val (Below.refl _ _) 8 _ (by kernel_rfl) rfl)
            case o9 =>
              intro L V aX wX K hl hp hcl hf hJ hK
              have t26 := hf.in (i := 6) (d := 26) (by kernel_rfl) (hp 6 (by kernel_rfl)) (hJ.vals 6 _ rfl (hp 6 (by kernel_rfl)))
              have t28 := hf.in (i := 8) (d := 28) (by kernel_rfl) (hp 8 (by kernel_rfl)) (hJ.vals 8 _ rfl (hp 8 (by kernel_rfl)))
              have hnz : ¬ n = 0 := by omega
              rw [if_pos (by rfl)]
              go_simp
              exact hK _ _ (hJ.val (Below.refl _ _) 9 _ (by kernel_rfl) rfl)
            case o10 =>
              intro L V aX wX K hl hp hcl hf hJ hK
              have t24 := hf.in (i := 4) (d := 24) (by kernel_rfl) (hp 4 (by kernel_rfl)) (hJ.vals 4 _ rfl (hp 4 (by kernel_rfl)))
              have t29 := hf.in (i := 9) (d := 29) (by kernel_rfl) (hp 9 (by kernel_rfl)) (hJ.vals 9 _ rfl (hp 9 (by kernel_rfl)))
              rw [if_pos (by rfl)]
              go_simp
              exact hK _ _ (hJ.val (Below.refl _ _) 10 _ (by kernel_rfl) rfl)
            case o11 =>
              intro L V aX wX K hl hp hcl hf hJ hK
              have t30 := hf.in (i := 10) (d := 30) (by kernel_rfl) (hp 10 (by kernel_rfl)) (hJ.vals 10 _ rfl (hp 10 (by kernel_rfl)))
              obtain ⟨c0, c1, c2, c3, c4, c5, c6, c7⟩ := HCELLS.out wX hJ.below
              rw [if_pos (by rfl)]
              go_simp
              exact hK _ _ (hJ.val (Below.refl _ _) 11 _ (by kernel_rfl) rfl)
            case o12 =>
              intro L V aX wX K hl hp hcl hf hJ hK
              have t1 : aX.tmps[1]? = some (.slice (some ⟨b4, off4, none⟩) m cap2) := hf.old (by kernel_rfl) rfl
              rw [if_pos (by rfl)]
              go_simp
              exact hK _ _ (hJ.val (Below.refl _ _) 12 _ (by kernel_rfl) rfl)
            case o13 =>
              intro L V aX wX K hl hp hcl hf hJ hK
              have t6 : aX.tmps[6]? = some (.int .i64 (k : Int)) := hf.old (by kernel_rfl) rfl
              rw [if_pos (by rfl)]
              go_simp
              exact hK _ _ (hJ.val (Below.refl _ _) 13 _ (by kernel_rfl) rfl)
            case o14 =>
              intro L V aX wX K hl hp hcl hf hJ hK
              have t32 := hf.in (i := 12) (d := 32) (by kernel_rfl) (hp 12 (by kernel_rfl)) (hJ.vals 12 _ rfl (hp 12 (by kernel_rfl)))
              have t33 := hf.in (i := 13) (d := 33) (by kernel_rfl) (hp 13 (by kernel_rfl)) (hJ.vals 13 _ rfl (hp 13 (by kernel_rfl)))
              rw [if_pos (by rfl)]
              go_simp
              exact hK _ _ (hJ.val (Below.refl _ _) 14 _ (by kernel_rfl) rfl)
            case o15 =>
              intro L V aX wX K hl hp hcl hf hJ hK
              have t34 := hf.in (i := 14) (d := 34) (by kernel_rfl) (hp 14 (by kernel_rfl)) (hJ.vals 14 _ rfl (hp 14 (by kernel_rfl)))
              obtain ⟨c0, c1, c2, c3, c4, c5, c6, c7⟩ := HCELLS.out wX hJ.below
              rw [if_pos (by rfl)]
              go_simp
              exact hK _ _ (hJ.val (Below.refl _ _) 15 _ (by kernel_rfl) rfl)
            case o16 =>
              intro L V aX wX K hl hp hcl hf hJ hK
              have t1 : aX.tmps[1]? = some (.slice (some ⟨b4, off4, none⟩) m cap2) := hf.old (by kernel_rfl) rfl
              rw [if_pos (by rfl)]
              go_simp
              exact hK _ _ (hJ.val (Below.refl _ _) 16 _ (by kernel_rfl) rfl)
            case o17 =>
              intro L V aX wX K hl hp hcl hf hJ hK
              have t6 : aX.tmps[6]? = some (.int .i64 (k : Int)) := hf.old (by kernel_rfl) rfl
              rw [if_pos (by rfl)]
              go_simp
              exact hK _ _ (hJ.val (Below.refl _ _) 17 _ (by kernel_rfl) rfl)
            case o18 =>
              intro L V aX wX K hl hp hcl hf hJ hK
              have t37 := hf.in (i := 17) (d := 37) (by kernel_rfl) (hp 17 (by kernel_rfl)) (hJ.vals 17 _ rfl (hp 17 (by kernel_rfl)))
              rw [if_pos (by rfl)]
              go_simp
              exact hK _ _ (hJ.val (Below.refl _ _) 18 _ (by kernel_rfl) rfl)
            case o19 =>
              intro L V aX wX K hl hp hcl hf hJ hK
              have t1 : aX.tmps[1]? = some (.slice (some ⟨b4, off4, none⟩) m cap2) := hf.old (by kernel_rfl) rfl
              rw [if_pos (by rfl)]
              go_simp
              exact hK _ _ (hJ.val (Below.refl _ _) 19 _ (by kernel_rfl) rfl)
            case o20 =>
              intro L V aX wX K hl hp hcl hf hJ hK
              have t39 := hf.in (i := 19) (d := 39) (by kernel_rfl) (hp 19 (by kernel_rfl)) (hJ.vals 19 _ rfl (hp 19 (by kernel_rfl)))
              rw [if_pos (by rfl)]
              go_simp
              exact hK _ _ (hJ.val (Below.refl _ _) 20 _ (by kernel_rfl) rfl)
            case o21 =>
              intro L V aX wX K hl hp hcl hf hJ hK
              have t38 := hf.in (i := 18) (d := 38) (by kernel_rfl) (hp 18 (by kernel_rfl)) (hJ.vals 18 _ rfl (hp 18 (by kernel_rfl)))
              have t40 := hf.in (i := 20) (d := 40) (by kernel_rfl) (hp 20 (by kernel_rfl)) (hJ.vals 20 _ rfl (hp 20 (by kernel_rfl)))
              have hnz : ¬ m = 0 := by omega
              rw [if_pos (by rfl)]
              go_simp
              exact hK _ _ (hJ.val (Below.refl _ _) 21 _ (by kernel_rfl) rfl)
            case o22 =>
              intro L V aX wX K hl hp hcl hf hJ hK
              have t36 := hf.in (i := 16) (d := 36) (by kernel_rfl) (hp 16 (by kernel_rfl)) (hJ.vals 16 _ rfl (hp 16 (by kernel_rfl)))
              have t41 := hf.in (i := 21) (d := 41) (by kernel_rfl) (hp 21 (by kernel_rfl)) (hJ.vals 21 _ rfl (hp 21 (by kernel_rfl)))
              rw [if_pos (by rfl)]
              go_simp
              exact hK _ _ (hJ.val (Below.refl _ _) 22 _ (by kernel_rfl) rfl)
            case o23 =>
              intro L V aX wX K hl hp hcl hf hJ hK
              have t42 := hf.in (i := 22) (d := 42) (by kernel_rfl) (hp 22 (by kernel_rfl)) (hJ.vals 22 _ rfl (hp 22 (by kernel_rfl)))
              obtain ⟨c0, c1, c2, c3, c4, c5, c6, c7⟩ := HCELLS.out wX hJ.below
              rw [if_pos (by rfl)]
              go_simp
              exact hK _ _ (hJ.val (Below.refl _ _) 23 _ (by kernel_rfl) rfl)
            case o24 =>
              intro L V aX wX K hl hp hcl hf hJ hK
              have t23 := hf.in (i := 3) (d := 23) (by kernel_rfl) (hp 3 (by kernel_rfl)) (hJ.vals 3 _ rfl (hp 3 (by kernel_rfl)))
              have t31 := hf.in (i := 11) (d := 31) (by kernel_rfl) (hp 11 (by kernel_rfl)) (hJ.vals 11 _ rfl (hp 11 (by kernel_rfl)))
              have t35 := hf.in (i := 15) (d := 35) (by kernel_rfl) (hp 15 (by kernel_rfl)) (hJ.vals 15 _ rfl (hp 15 (by kernel_rfl)))
              have t43 := hf.in (i := 23) (d := 43) (by kernel_rfl) (hp 23 (by kernel_rfl)) (hJ.vals 23 _ rfl (hp 23 (by kernel_rfl)))
              rw [if_pos (by rfl)]
              go_simp
              refine (HM.out _).mono ?_
              rintro e wA ⟨rfl, hgr⟩
              exact hK _ _ (hJ.val (hgr) 24 _ (by kernel_rfl) rfl)
            case o25 =>
              intro L V aX wX K hl hp hcl hf hJ hK
              have t44 := hf.in (i := 24) (d := 44) (by kernel_rfl) (hp 24 (by kernel_rfl)) (hJ.vals 24 _ rfl (hp 24 (by kernel_rfl)))
              rw [if_pos (by rfl)]
              go_simp
              exact hK _ _ (hJ.val (Below.refl _ _) 25 _ (by kernel_rfl) rfl)
          intro V wC hJ
          have hv := hJ.vals 25 _ rfl (by kernel_rfl)
          have HBW := Lib.hid hJ.below
          simp only [puts, Act.put, List.setIfInBounds_toArray, List.set_cons_zero, List.set_cons_succ]
          rw [hv]
          clear hJ hv
          have HB : Hid (Below w.heap.size w wC) := Lib.hid (hg2.out.trans (HBW.out.mono hg2.out.size))
          clear HCELLS HBW
          have hcs : c = 0 ∨ c = 1 ∨ c = 2 ∨ c = 3 := by omega
          have hlast : ∀ b, f i k = b → b = false → ∀ t, t < k + 1 → f i t = false := fun b h1 h2 t ht => by
            by_cases htk : t < k
            · exact hno2.out t htk
            · obtain rfl : t = k := by omega
              rw [h1, h2]
          have HLA := Lib.hid hlast
          clear hlast hle
          rcases hcs with rfl | rfl | rfl | rfl
          · go_wp2_with fail
            go_roundw
            case rel => exact ⟨k + 1, by omega, by go_num, Lib.hid (HLA.out _ HFC.out rfl), HB⟩
            case measure => simp [intOf]; omega
          · go_wp2_with fail
            go_roundw
            case rel => exact ⟨k + 1, by omega, by go_num, Lib.hid (HLA.out _ HFC.out rfl), HB⟩
            case measure => simp [intOf]; omega
          · go_wp2_with fail
            go_ret
            exact ⟨by rw [HR.out, List.any_eq_true.2 ⟨i, List.mem_range.2 HIK.out.1, List.any_eq_true.2 ⟨k, List.mem_range.2 HIK.out.2, HFC.out⟩⟩]; rfl, HB.out⟩
          · go_wp2_with fail
            go_ret
            exact ⟨by rw [HR.out, List.any_eq_true.2 ⟨i, List.mem_range.2 HIK.out.1, List.any_eq_true.2 ⟨k, List.mem_range.2 HIK.out.2, HFC.out⟩⟩]; rfl, HB.out⟩
        · obtain rfl : k = m := by omega
          go_wp2_with fail
          refine ⟨⟨i + 1, by omega, by go_num, Lib.hid (fun s t hs ht => ?_), hg2⟩, by simp [intOf]; omega⟩
          by_cases hsi : s < i
          · exact hno.out s t hsi ht
          · obtain rfl : s = i := by omega
            exact hno2.out t ht
    · obtain rfl : i = n := by omega
      go_wp2_with fail
      go_ret
      refine ⟨?_, hg.out⟩
      have : r = false := by
        rw [HR.out, List.any_eq_false]
        intro s hs
        rw [Bool.not_eq_true, List.any_eq_false]
        intro t ht
        rw [hno.out s t (List.mem_range.1 hs) (List.mem_range.1 ht)]
        simp
      rw [this]
      rfl
end Go.Proofs.YtgijaaklhdcgeaaGreat
