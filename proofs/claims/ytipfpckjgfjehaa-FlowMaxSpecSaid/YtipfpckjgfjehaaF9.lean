/-
  fastilaw13.net, sane; helpers.
-/
import Derived.Test.YtipfpckjgfjehaaF8
import Derived.Test.YtipfpckjgfjehaaPFlowMaxSpecx1
namespace Go.Proofs.Ytipfpckjgfjehaa
set_option linter.unusedVariables false
set_option linter.unusedSimpArgs false
open Go.RowKit PFlowMaxSpec Go.Proofs.YtipfpckjgfjehaaW.PrintWords
attribute [local go_sem] Oper.semAt_some

/-! ### What is read out of a block -/
theorem C_ints {w : World} {g : Nat} {xs : List Int} {ty : TypeId} {fr : Nat × Nat} (h : w.heap[g]? = some (.cells (intsOf xs) ty fr)) (hl : xs.length ≤ 1000000) : (Kd.int .i64).C w (some ⟨g, 0, none⟩) xs.length xs :=
  ⟨rfl, by omega, fun _ => ⟨_, rfl, fun j p hj => ⟨[.int .i64 p], rfl, rfl, fun i u hu => by
    have hi : i = 0 := by
      have := (List.getElem?_eq_some_iff.1 hu).1
      simp at this; omega
    subst hi
    cases hu
    have hadd : (⟨g, 0, none⟩ : Addr).add (j * 1 + 0) = ⟨g, j, none⟩ := by unfold Addr.add; split <;> simp_all
    show w.cell? ((⟨g, 0, none⟩ : Addr).add (j * 1 + 0)) = _
    rw [hadd, blk_cell h]
    unfold intsOf
    rw [List.getElem?_toArray, List.getElem?_map, hj]
    rfl⟩⟩⟩
theorem C_bools {w : World} {g : Nat} {xs : List Bool} {ty : TypeId} {fr : Nat × Nat} (h : w.heap[g]? = some (.cells (boolsOf xs) ty fr)) (hl : xs.length ≤ 1000000) : Kd.bool.C w (some ⟨g, 0, none⟩) xs.length xs :=
  ⟨rfl, by omega, fun _ => ⟨_, rfl, fun j p hj => ⟨[.bool p], rfl, rfl, fun i u hu => by
    have hi : i = 0 := by
      have := (List.getElem?_eq_some_iff.1 hu).1
      simp at this; omega
    subst hi
    cases hu
    have hadd : (⟨g, 0, none⟩ : Addr).add (j * 1 + 0) = ⟨g, j, none⟩ := by unfold Addr.add; split <;> simp_all
    show w.cell? ((⟨g, 0, none⟩ : Addr).add (j * 1 + 0)) = _
    rw [hadd, blk_cell h]
    unfold boolsOf
    rw [List.getElem?_toArray, List.getElem?_map, hj]
    rfl⟩⟩⟩
def arcsOf (l : List S43) : Array Value := (l.flatMap fun a => [Value.int .i64 a.f0, .int .i64 a.f1, .int .i64 a.f2]).toArray
theorem flatMap3_get (l : List S43) (j i : Nat) (hj : j < l.length) (hi : i < 3) : (l.flatMap fun a => [Value.int .i64 a.f0, .int .i64 a.f1, .int .i64 a.f2])[j * 3 + i]? = [Value.int .i64 l[j].f0, .int .i64 l[j].f1, .int .i64 l[j].f2][i]? := by
  induction l generalizing j with
  | nil => simp at hj
  | cons a l ih =>
    rw [List.flatMap_cons]
    cases j with
    | zero => rw [List.getElem?_append_left (by simp; omega)]; simp
    | succ j =>
      rw [List.getElem?_append_right (by simp; omega), show (j + 1) * 3 + i - [Value.int .i64 a.f0, .int .i64 a.f1, .int .i64 a.f2].length = j * 3 + i by simp; omega]
      have := ih j (by simpa using hj)
      simpa using this
theorem C_arcs {w : World} {g : Nat} {l : List S43} {ty : TypeId} {fr : Nat × Nat} (h : w.heap[g]? = some (.cells (arcsOf l) ty fr)) (hl : l.length ≤ 1000000) : k43.C w (some ⟨g, 0, none⟩) l.length l :=
  ⟨rfl, by omega, fun _ => ⟨_, rfl, fun j p hj => ⟨[.int .i64 p.f0, .int .i64 p.f1, .int .i64 p.f2], rfl, k43_mk w p, fun i u hu => by
    obtain ⟨hjl, hp⟩ := List.getElem?_eq_some_iff.1 hj
    have hi : i < 3 := by simpa using (List.getElem?_eq_some_iff.1 hu).1
    have hadd : (⟨g, 0, none⟩ : Addr).add (j * 3 + i) = ⟨g, j * 3 + i, none⟩ := by unfold Addr.add; split <;> simp_all
    show w.cell? ((⟨g, 0, none⟩ : Addr).add (j * 3 + i)) = _
    rw [hadd, blk_cell h]
    unfold arcsOf
    rw [List.getElem?_toArray, flatMap3_get l j i hjl hi, hp]
    exact hu⟩⟩⟩
theorem own_cap {w : World} {B e z n : Nat} {v : Value} {xs : List Value} {A : Option Addr} {c : Nat} (h : w.ownsRow B e z v n xs) (hv : v = .slice A n c) : n ≤ c := by
  rcases h.2 with ⟨_, h0⟩ | ⟨g, cap, cur, h1, _, _, h2, _⟩
  · omega
  · rw [hv] at h1; cases h1; exact h2
theorem Row.toC {w : World} {B : Nat} {v : Value} {xs : List Int} (h : Row w B v xs) (hl : xs.length ≤ 1000000) : ∃ A c, v = .slice A xs.length c ∧ xs.length ≤ c ∧ (Kd.int .i64).C w A xs.length xs := by
  obtain ⟨A, c, hv⟩ := h.val
  refine ⟨A, c, hv, own_cap h hv, rfl, by omega, fun hp => ?_⟩
  obtain ⟨ad, c', e, _⟩ := h.at 0 hp
  rw [hv] at e
  cases e
  refine ⟨ad, rfl, fun j p hj => ⟨[.int .i64 p], rfl, rfl, fun i u hu => ?_⟩⟩
  have hi : i = 0 := by
    have := (List.getElem?_eq_some_iff.1 hu).1
    simp at this; omega
  subst hi
  cases hu
  obtain ⟨hjl, hp'⟩ := List.getElem?_eq_some_iff.1 hj
  obtain ⟨ad', c'', e, hc⟩ := h.at j hjl
  rw [hv] at e
  cases e
  rw [List.getD_eq_getElem?_getD, hj] at hc
  show w.cell? (ad.add (j * 1 + 0)) = _
  rw [Nat.mul_one, Nat.add_zero]
  exact hc
theorem RowB.at {w : World} {B : Nat} {v : Value} {xs : List Bool} (h : RowB w B v xs) (k : Nat) (hk : k < xs.length) : ∃ ad c, v = .slice (some ad) xs.length c ∧ w.cell? (ad.add k) = some (.bool (xs.getD k false)) := by
  rcases h.2 with ⟨_, h0⟩ | ⟨g, cap, cur, rfl, _⟩
  · omega
  · refine ⟨_, cap, rfl, h.cells (g := g) rfl k _ ?_⟩
    simp [List.getElem?_eq_getElem hk, List.getD_eq_getElem?_getD]
theorem RowB.toC {w : World} {B : Nat} {v : Value} {xs : List Bool} (h : RowB w B v xs) (hl : xs.length ≤ 1000000) : ∃ A c, v = .slice A xs.length c ∧ xs.length ≤ c ∧ Kd.bool.C w A xs.length xs := by
  obtain ⟨A, c, hv⟩ := h.val
  refine ⟨A, c, hv, own_cap h hv, rfl, by omega, fun hp => ?_⟩
  obtain ⟨ad, c', e, _⟩ := h.at 0 hp
  rw [hv] at e
  cases e
  refine ⟨ad, rfl, fun j p hj => ⟨[.bool p], rfl, rfl, fun i u hu => ?_⟩⟩
  have hi : i = 0 := by
    have := (List.getElem?_eq_some_iff.1 hu).1
    simp at this; omega
  subst hi
  cases hu
  obtain ⟨hjl, hp'⟩ := List.getElem?_eq_some_iff.1 hj
  obtain ⟨ad', c'', e, hc⟩ := h.at j hjl
  rw [hv] at e
  cases e
  rw [List.getD_eq_getElem?_getD, hj] at hc
  show w.cell? (ad.add (j * 1 + 0)) = _
  rw [Nat.mul_one, Nat.add_zero]
  exact hc
/-- Max, its rows read. -/
theorem max_calls2 (N s t : Int) (A : Option Addr) (c : Nat) (l : List S43) (w : World) (hr : Kd.C k43 w A l.length l) (hz : chk N s t l = 0) :
    Calls Try.prog 18 #[.agg #[.int .i64 N, .int .i64 s, .int .i64 t, .slice A l.length c]] w fun e w' => ∃ A1 c1 A2 c2 x side, e = .returned (.tuple #[.slice A1 x.length c1, .slice A2 side.length c2, .int .i64 0]) ∧ Ch [] w w' ∧ MaxRes N s t l x side ∧ (Kd.int .i64).C w' A1 x.length x ∧ Kd.bool.C w' A2 side.length side ∧ side.length ≤ c2 := by
  refine (max_calls N s t A c l w hr hz).mono ?_
  rintro e w' ⟨v2, v3, x, side, rfl, hc, hm, h2, h3⟩
  have hx : x.length ≤ 1000000 := by rw [hm.flow.1]; have := (chk_zero hz).2.1; omega
  have hs : side.length ≤ 1000000 := by have := hm.sd.1; have := (chk_zero hz).1.2.1; omega
  obtain ⟨A1, c1, rfl, _, k2⟩ := h2.toC hx
  obtain ⟨A2, c2, rfl, h4, k3⟩ := h3.toC hs
  exact ⟨A1, c1, A2, c2, x, side, rfl, hc, hm, k2, k3, h4⟩

set_option maxHeartbeats 1000000 in
theorem net_calls (n : Int) (A : Option Addr) (len c : Nat) (w : World) (h0 : 0 ≤ n) (h1 : n ≤ 1000) :
    Calls Try.prog 23 #[.int .i64 n, .slice A len c] w fun e w' => e = .returned (.agg #[.int .i64 n, .int .i64 0, .int .i64 (n - 1), .slice A len c]) ∧ Ch [] w w' := by
  go_enter Try.func23, Try.ntmps23
  go_wp2
  refine bodyPost_ret (results_cell_row rfl _ _ w.heap.size 24 #[.int .i64 n, .int .i64 0, .int .i64 (n - 1), .slice A len c] (0, 0) _ rfl (blk_new _ _) Try.underlying24 rfl (by kernel_rfl)) rfl ?_
  exact ⟨rfl, (Ch.refl _ _).alloc _⟩

set_option maxHeartbeats 4000000 in
/-- Too many arcs: none is read. -/
theorem check_many (N s t : Int) (A : Option Addr) (len c : Nat) (w : World) (ha : argOk N s t) (hl : 512 < len) (hl2 : len ≤ 100000) :
    Calls Try.prog 15 #[.agg #[.int .i64 N, .int .i64 s, .int .i64 t, .slice A len c]] w fun e w' => e = .returned (.int .i64 2) ∧ Ch [] w w' := by
  obtain ⟨h1, h2, a3, a4, h5⟩ := ha
  have b1 : decide (N < 2) = false := by simpa using h1
  have b2 : decide (64 < N) = false := by simpa using h2
  have b5 : (s == t) = false := by simpa using h5
  have b6 : decide ((512 : Int) < (len : Int)) = true := by simp; omega
  clear h5
  go_enter Try.func15, Try.ntmps15
  go_wp2_with (go_at_call 26; refine (vertex_calls w.heap.size N _ _ ?_).mono ?_; (focus (go_simp; done)); rintro e w' ⟨rfl, rfl⟩)
  go_ret
  exact ⟨rfl, (Ch.refl _ _).alloc _⟩
end Go.Proofs.Ytipfpckjgfjehaa
