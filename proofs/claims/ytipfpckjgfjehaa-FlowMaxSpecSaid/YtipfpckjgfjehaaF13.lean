/-
  The laws' arguments, opened.
-/
import Derived.Test.YtipfpckjgfjehaaF9
import Derived.WalkKit
import Derived.ProofKit
import Derived.OpenShut
import Derived.ChangeOld
import Derived.Below
import Derived.Lib.SmallJoins
import Derived.Deep.Strs
import Derived.Deep.Grids
import Derived.Deep.Slices
namespace Go.Proofs.Ytipfpckjgfjehaa
set_option linter.unusedVariables false
set_option linter.unusedSimpArgs false
open Go.ChangeShapes Go.WideShapes Go.ChangeAt Go.RowKit Go.Deep Go.Joins
open PFlowMaxSpec Go.Proofs.YtipfpckjgfjehaaW.PrintWords

theorem Try.own : ownKnob Try.prog.godebug = none := by kernel_rfl
theorem Try.laidOut : laidOutB Try.prog = true := by kernel_rfl
theorem cells43 : Try.prog.cellsOf 43 = 3 := by kernel_rfl
theorem cells3 : Try.prog.cellsOf 3 = 1 := by kernel_rfl
theorem cells4 : Try.prog.cellsOf 4 = 1 := by kernel_rfl

section
variable {H : Type} {enc : TypeId × Value → H} {w : World} {base : Nat} {held : Bool}
theorem open_arcs {fuel : Nat} {cs : List Value} {x : DataW H × List MemPlace} (h : DataW.trod enc Try.prog w base (fun _ => true) held fuel 22 cs = some x) :
    ∃ A c l, cs = [.slice A (List.length l) c] ∧ l.length ≤ c ∧ k43.C w A l.length l := by
  rcases open_slice Try.underlying22 h with ⟨rfl, _⟩ | ⟨a, len, cap, m, n, D, Pl, rfl, _, hl, hm, hmm, _, hi⟩
  · exact ⟨none, 0, [], rfl, Nat.le_refl _, Kd.C_nil _ _⟩
  · rw [if_pos rfl] at hmm
    have key : ∀ i, i < len → ∃ p : S43, ∀ j v, [Value.int .i64 p.f0, Value.int .i64 p.f1, Value.int .i64 p.f2][j]? = some v → w.cell? (a.add (i * 3 + j)) = some v := fun i hil => by
      obtain ⟨cs', hc, ht⟩ := hi i (by omega)
      rw [cells43] at hc
      obtain ⟨_, hcl, hat⟩ := World.cells?_some hc
      obtain ⟨y0, y1, y2, k, _, _, h0, h1, h2⟩ := trod_struct3 Try.underlying43 ht
      match cs', hcl with
      | [v0, v1, v2], _ =>
        simp only [cells3, List.drop_zero, List.take_succ_cons, List.take_zero, List.drop_succ_cons] at h0 h1 h2
        obtain ⟨n0, e0, _⟩ := DataW.trod_int Try.underlying3 h0
        obtain ⟨n1, e1, _⟩ := DataW.trod_int Try.underlying3 h1
        obtain ⟨n2, e2, _⟩ := DataW.trod_int Try.underlying3 h2
        simp only [List.cons.injEq, and_true] at e0 e1 e2
        subst e0 e1 e2
        refine ⟨⟨n0, n1, n2⟩, fun j v hj => ?_⟩
        have hj3 : j < 3 := by simpa using (List.getElem?_eq_some_iff.1 hj).1
        rw [← Go.Deep.add_add, hat j hj3]
        exact hj
    let f : Nat → S43 := fun i => if h : i < len then Classical.choose (key i h) else z43
    have hlen : ((List.range len).map f).length = len := by simp
    refine ⟨some a, cap, (List.range len).map f, by rw [hlen], by rw [hlen]; exact hl, ?_⟩
    rw [hlen]
    refine ⟨hlen, by simp only [maxLen] at hm; omega, fun _ => ⟨a, rfl, fun j p hj => ?_⟩⟩
    have hjl : j < len := by
      have := (List.getElem?_eq_some_iff.1 hj).1
      rwa [hlen] at this
    rw [List.getElem?_map, List.getElem?_range hjl] at hj
    have hp : f j = p := by simpa using hj
    have hf : f j = Classical.choose (key j hjl) := dif_pos hjl
    have hk := Classical.choose_spec (key j hjl)
    rw [← hf, hp] at hk
    exact ⟨[.int .i64 p.f0, .int .i64 p.f1, .int .i64 p.f2], rfl, k43_mk w p, fun i u hu => hk i u hu⟩
theorem open_introw {fuel : Nat} {cs : List Value} {x : DataW H × List MemPlace} (h : DataW.trod enc Try.prog w base (fun _ => true) held fuel 25 cs = some x) :
    ∃ A c l, cs = [.slice A (List.length l) c] ∧ l.length ≤ c ∧ (Kd.int .i64).C w A l.length l := by
  rcases open_ints Try.underlying25 Try.underlying3 cells3 h with ⟨rfl, _⟩ | ⟨a, len, cap, zs, rfl, _, hl, hm, hz, _, hcell, _⟩
  · exact ⟨none, 0, [], rfl, Nat.le_refl _, Kd.C_nil _ _⟩
  · rw [if_pos rfl] at hz
    have hlen : (zs.take len).length = len := by rw [List.length_take]; omega
    refine ⟨some a, cap, zs.take len, by rw [hlen], by rw [hlen]; exact hl, ?_⟩
    rw [hlen]
    refine ⟨hlen, by simp only [maxLen] at hm; omega, fun _ => ⟨a, rfl, fun j p hj => ⟨[.int .i64 p], rfl, rfl, fun i u hu => ?_⟩⟩⟩
    have hi : i = 0 := by
      have := (List.getElem?_eq_some_iff.1 hu).1
      simp at this; omega
    subst hi
    cases hu
    have hjl : j < len := by
      have := (List.getElem?_eq_some_iff.1 hj).1
      rwa [hlen] at this
    rw [List.getElem?_take_of_lt hjl] at hj
    show w.cell? (a.add (j * 1 + 0)) = _
    rw [Nat.mul_one, Nat.add_zero, hcell j (by omega), List.getD_eq_getElem?_getD, hj]
    rfl
theorem open_boolrow {fuel : Nat} {cs : List Value} {x : DataW H × List MemPlace} (h : DataW.trod enc Try.prog w base (fun _ => true) held fuel 26 cs = some x) :
    ∃ A c l, cs = [.slice A (List.length l) c] ∧ l.length ≤ c ∧ Kd.bool.C w A l.length l := by
  rcases open_bools Try.underlying26 Try.underlying4 cells4 h with ⟨rfl, _⟩ | ⟨a, len, cap, B, rfl, _, hl, hm, _, hcell⟩
  · exact ⟨none, 0, [], rfl, Nat.le_refl _, Kd.C_nil _ _⟩
  · have hlen : ((List.range len).map B).length = len := by simp
    refine ⟨some a, cap, (List.range len).map B, by rw [hlen], by rw [hlen]; exact hl, ?_⟩
    rw [hlen]
    refine ⟨hlen, by simp only [maxLen] at hm; omega, fun _ => ⟨a, rfl, fun j p hj => ⟨[.bool p], rfl, rfl, fun i u hu => ?_⟩⟩⟩
    have hi : i = 0 := by
      have := (List.getElem?_eq_some_iff.1 hu).1
      simp at this; omega
    subst hi
    cases hu
    have hjl : j < len := by
      have := (List.getElem?_eq_some_iff.1 hj).1
      rwa [hlen] at this
    rw [List.getElem?_map, List.getElem?_range hjl] at hj
    show w.cell? (a.add (j * 1 + 0)) = _
    rw [Nat.mul_one, Nat.add_zero, hcell j (by omega)]
    have : B j = p := by simpa using hj
    rw [this]
/-- A network, by value. -/
theorem open_net {r : Reach} {b0 : Nat} {v : Value} {d : DataW H} {p : List MemPlace} (hv : Value.okWide Try.prog w r b0 24 v) (h : DataW.Trod enc Try.prog w base (fun _ => true) held 24 v d p) :
    ∃ N s t A c l, v = .agg #[.int .i64 N, .int .i64 s, .int .i64 t, .slice A (List.length l) c] ∧ l.length ≤ c ∧ k43.C w A l.length l := by
  obtain ⟨v0, v1, v2, v3, y0, y1, y2, y3, n, rfl, _, _, h0, h1, h2, h3⟩ := open_agg4 Try.underlying24 (by kernel_rfl) (by kernel_rfl) hv h
  obtain ⟨n0, e0, _⟩ := DataW.trod_int Try.underlying3 h0
  obtain ⟨n1, e1, _⟩ := DataW.trod_int Try.underlying3 h1
  obtain ⟨n2, e2, _⟩ := DataW.trod_int Try.underlying3 h2
  obtain ⟨A, c, l, e3, hl, hc⟩ := open_arcs h3
  simp only [List.cons.injEq, and_true] at e0 e1 e2 e3
  subst e0 e1 e2 e3
  exact ⟨n0, n1, n2, A, c, l, rfl, hl, hc⟩
end
end Go.Proofs.Ytipfpckjgfjehaa
