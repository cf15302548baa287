/-
  flow.Check: the walk.
-/
import Derived.Test.YtipfpckjgfjehaaF1
import Derived.Test.YtipfpckjgfjehaaM
import Derived.Laws.Small
namespace Go.Proofs.Ytipfpckjgfjehaa
set_option linter.unusedVariables false
set_option linter.unusedSimpArgs false
open Go.RowKit PFlowMaxSpec Go.Proofs.YtipfpckjgfjehaaW.PrintWords
attribute [local go_sem] Oper.semAt_some

def inV (N v : Int) : Bool := decide (0 ≤ v) && decide (v < N)
theorem inV_true {N v : Int} : inV N v = true ↔ 0 ≤ v ∧ v < N := by simp [inV]
theorem inV_false {N v : Int} : inV N v = false ↔ v < 0 ∨ N ≤ v := by
  rw [← Bool.not_eq_true, inV_true]; omega
def argOk (N s t : Int) : Prop := 2 ≤ N ∧ N ≤ 64 ∧ inV N s = true ∧ inV N t = true ∧ s ≠ t
instance (N s t : Int) : Decidable (argOk N s t) := by unfold argOk; infer_instance
def arcOk (N : Int) (a : S43) : Prop := inV N a.f0 = true ∧ inV N a.f1 = true ∧ a.f0 ≠ a.f1 ∧ 0 ≤ a.f2 ∧ a.f2 ≤ 1073741824
instance (N : Int) (a : S43) : Decidable (arcOk N a) := by unfold arcOk; infer_instance
/-- P13.1: is a network one? -/
def chk (N s t : Int) (l : List S43) : Int := if argOk N s t then (if l.length ≤ 512 then (if ∀ k : Nat, k < l.length → arcOk N (rd_T43 l k) then 0 else 130) else 2) else 1
theorem chk_arg {N s t : Int} {l : List S43} (h : ¬ argOk N s t) : chk N s t l = 1 := by unfold chk; rw [if_neg h]
theorem chk_len {N s t : Int} {l : List S43} (h : argOk N s t) (hl : 512 < l.length) : chk N s t l = 2 := by unfold chk; rw [if_pos h, if_neg (by omega)]
theorem chk_arc {N s t : Int} {l : List S43} (h : argOk N s t) (hl : l.length ≤ 512) {k : Nat} (hk : k < l.length) (hb : ¬ arcOk N (rd_T43 l k)) : chk N s t l = 130 := by
  unfold chk; rw [if_pos h, if_pos hl, if_neg (fun hall => hb (hall k hk))]
theorem chk_ok {N s t : Int} {l : List S43} (h : argOk N s t) (hl : l.length ≤ 512) (ha : ∀ k : Nat, k < l.length → arcOk N (rd_T43 l k)) : chk N s t l = 0 := by
  unfold chk; rw [if_pos h, if_pos hl, if_pos ha]
theorem chk_zero {N s t : Int} {l : List S43} (h : chk N s t l = 0) : argOk N s t ∧ l.length ≤ 512 ∧ ∀ k : Nat, k < l.length → arcOk N (rd_T43 l k) := by
  unfold chk at h
  split at h
  · rename_i h1
    split at h
    · rename_i h2
      split at h
      · rename_i h3; exact ⟨h1, h2, h3⟩
      · simp at h
    · simp at h
  · simp at h

set_option maxHeartbeats 400000 in
theorem vertex_calls (nb : Nat) (N v : Int) (w : World) (hc : w.cell? ⟨nb, 0, none⟩ = some (.int .i64 N)) :
    Calls Try.prog 26 #[.int .i64 v, .pointer (some ⟨nb, 0, none⟩)] w fun e w' => e = .returned (.bool (inV N v)) ∧ w = w' := by
  by_cases h0 : 0 ≤ v
  · have d0 : decide (0 ≤ v) = true := by simpa using h0
    by_cases h1 : v < N
    · have d1 : decide (v < N) = true := by simpa using h1
      rw [show inV N v = true from inV_true.2 ⟨h0, h1⟩]
      go_enter Try.func26, Try.ntmps26
      go_wp2
      go_ret
      exact ⟨rfl, rfl⟩
    · have d1 : decide (v < N) = false := by simpa using h1
      rw [show inV N v = false from inV_false.2 (by omega)]
      go_enter Try.func26, Try.ntmps26
      go_wp2
      go_ret
      exact ⟨rfl, rfl⟩
  · have d0 : decide (0 ≤ v) = false := by simpa using h0
    rw [show inV N v = false from inV_false.2 (by omega)]
    go_enter Try.func26, Try.ntmps26
    go_wp2
    go_ret
    exact ⟨rfl, rfl⟩


set_option maxHeartbeats 4000000 in
theorem check_calls (N s t : Int) (A : Option Addr) (c : Nat) (l : List S43) (w : World) (hr : Kd.C k43 w A l.length l) (hl : l.length ≤ 100000) :
    Calls Try.prog 15 #[.agg #[.int .i64 N, .int .i64 s, .int .i64 t, .slice A l.length c]] w fun e w' => e = .returned (.int .i64 (chk N s t l)) ∧ Ch [] w w' := by
  have HR := Aside0.mk hr
  clear hr
  by_cases a1 : N < 2
  · have b1 : decide (N < 2) = true := by simpa using a1
    have hk : chk N s t l = 1 := chk_arg (fun h => by obtain ⟨h1, h2, h3, h4, h5⟩ := h; omega)
    rw [hk]
    clear hk HR
    go_enter Try.func15, Try.ntmps15
    go_wp2_with (go_at_call 26; refine (vertex_calls w.heap.size N _ _ ?_).mono ?_; (focus (go_simp; done)); rintro e w' ⟨rfl, rfl⟩)
    go_ret
    exact ⟨rfl, (Ch.refl _ _).alloc _⟩
  have b1 : decide (N < 2) = false := by simpa using a1
  by_cases a2 : 64 < N
  · have b2 : decide (64 < N) = true := by simpa using a2
    have hk : chk N s t l = 1 := chk_arg (fun h => by obtain ⟨h1, h2, h3, h4, h5⟩ := h; omega)
    rw [hk]
    clear hk HR
    go_enter Try.func15, Try.ntmps15
    go_wp2_with (go_at_call 26; refine (vertex_calls w.heap.size N _ _ ?_).mono ?_; (focus (go_simp; done)); rintro e w' ⟨rfl, rfl⟩)
    go_ret
    exact ⟨rfl, (Ch.refl _ _).alloc _⟩
  have b2 : decide (64 < N) = false := by simpa using a2
  cases a3 : inV N s with
  | false =>
    have hk : chk N s t l = 1 := chk_arg (fun h => by obtain ⟨h1, h2, h3, h4, h5⟩ := h; rw [a3] at h3; cases h3)
    rw [hk]
    clear hk HR
    go_enter Try.func15, Try.ntmps15
    go_wp2_with (go_at_call 26; refine (vertex_calls w.heap.size N _ _ ?_).mono ?_; (focus (go_simp; done)); rintro e w' ⟨rfl, rfl⟩)
    go_ret
    exact ⟨rfl, (Ch.refl _ _).alloc _⟩
  | true =>
  cases a4 : inV N t with
  | false =>
    have hk : chk N s t l = 1 := chk_arg (fun h => by obtain ⟨h1, h2, h3, h4, h5⟩ := h; rw [a4] at h4; cases h4)
    rw [hk]
    clear hk HR
    go_enter Try.func15, Try.ntmps15
    go_wp2_with (go_at_call 26; refine (vertex_calls w.heap.size N _ _ ?_).mono ?_; (focus (go_simp; done)); rintro e w' ⟨rfl, rfl⟩)
    go_ret
    exact ⟨rfl, (Ch.refl _ _).alloc _⟩
  | true =>
  by_cases a5 : s = t
  · have b5 : (s == t) = true := by simpa using a5
    have hk : chk N s t l = 1 := chk_arg (fun h => by obtain ⟨h1, h2, h3, h4, h5⟩ := h; exact h5 a5)
    clear a5
    rw [hk]
    clear hk HR
    go_enter Try.func15, Try.ntmps15
    go_wp2_with (go_at_call 26; refine (vertex_calls w.heap.size N _ _ ?_).mono ?_; (focus (go_simp; done)); rintro e w' ⟨rfl, rfl⟩)
    go_ret
    exact ⟨rfl, (Ch.refl _ _).alloc _⟩
  have b5 : (s == t) = false := by simpa using a5
  have HA := Aside0.mk (show argOk N s t from ⟨by omega, by omega, a3, a4, a5⟩)
  by_cases a6 : 512 < l.length
  · have b6 : decide ((512 : Int) < (l.length : Int)) = true := by simp; omega
    rw [chk_len HA.out a6]
    go_enter Try.func15, Try.ntmps15
    go_wp2_with (go_at_call 26; refine (vertex_calls w.heap.size N _ _ ?_).mono ?_; (focus (go_simp; done)); rintro e w' ⟨rfl, rfl⟩)
    go_ret
    exact ⟨rfl, (Ch.refl _ _).alloc _⟩
  have b6 : decide ((512 : Int) < (l.length : Int)) = false := by simp; omega
  have hl5 : l.length ≤ 512 := by omega
  go_enter Try.func15, Try.ntmps15
  go_wp2_with (go_at_call 26; refine (vertex_calls w.heap.size N _ _ ?_).mono ?_; (focus (go_simp; done)); rintro e w' ⟨rfl, rfl⟩)
  refine wp_abs (fun W => Ch [] w W ∧ W.heap[w.heap.size]? = some (.cells #[.int .i64 N, .int .i64 s, .int .i64 t, .slice A l.length c] 24 (0, 0))) ⟨(Ch.refl _ _).alloc _, blk_new _ _⟩ ?_
  intro W hW
  have HW := Aside0.mk hW
  obtain ⟨nb, hnb⟩ : ∃ nb, nb = w.heap.size := ⟨_, rfl⟩
  rw [← hnb] at HW ⊢
  have HNB := Aside0.mk hnb
  clear hW hnb a1 a2 a3 a4 a5 a6 b1 b2 b5 b6
  go_loopw [43] (fun i wr => ∃ k : Nat, k ≤ l.length ∧ i = .int .i64 k ∧ Aside0 (Ch [] w wr ∧ wr.heap[nb]? = some (.cells #[.int .i64 N, .int .i64 s, .int .i64 t, .slice A l.length c] 24 (0, 0)) ∧ ∀ j : Nat, j < k → arcOk N (rd_T43 l j))) (fun i wr => l.length - (intOf i).toNat)
  case atStart => exact ⟨0, by omega, rfl, ⟨⟨HW.out.1, HW.out.2, fun j hj => by omega⟩⟩⟩
  case round =>
    obtain ⟨k, hk, rfl, hrel⟩ := hrel
    clear HW
    obtain ⟨hch, hbk, hall⟩ := hrel.out
    clear hrel
    have cn := blk_cell hbk 0
    simp only [List.getElem?_toArray, List.getElem?_cons_zero] at cn
    have hnbw : nb < wr.heap.size := blk_lt hbk
    by_cases hlt : k < l.length
    · obtain ⟨ad, rfl, c0, c1, c2⟩ := at_T43 (Kd.C_below HR.out hch.below) k (by omega) (by omega)
      simp only [Int.toNat_natCast] at c0 c1 c2
      have H := Aside0.mk (And.intro hch (And.intro hbk hall))
      clear hch hbk hall
      generalize hx : rd_T43 l k = x at c0 c1 c2
      obtain ⟨x0, x1, x2⟩ := x
      simp only at c0 c1 c2
      have HX := Aside0.mk hx
      clear hx
      cases e0 : inV N x0 with
      | false =>
        have HC := Aside0.mk (chk_arc HA.out hl5 hlt (fun h => by rw [HX.out] at h; obtain ⟨h1, h2, h3, h4, h5⟩ := h; simp only at h1 h2 h3 h4 h5; rw [e0] at h1; cases h1))
        go_wp2_with (go_at_call 26; refine (vertex_calls nb N _ _ ?_).mono ?_; (focus (go_simp; done)); rintro e w' ⟨rfl, rfl⟩)
        go_ret
        refine ⟨congrArg (fun x => Ending.returned (.int .i64 x)) HC.out.symm, ?_⟩
        exact H.out.1.alloc _
      | true =>
      cases e1 : inV N x1 with
      | false =>
        have HC := Aside0.mk (chk_arc HA.out hl5 hlt (fun h => by rw [HX.out] at h; obtain ⟨h1, h2, h3, h4, h5⟩ := h; simp only at h1 h2 h3 h4 h5; rw [e1] at h2; cases h2))
        go_wp2_with (go_at_call 26; refine (vertex_calls nb N _ _ ?_).mono ?_; (focus (go_simp; done)); rintro e w' ⟨rfl, rfl⟩)
        go_ret
        refine ⟨congrArg (fun x => Ending.returned (.int .i64 x)) HC.out.symm, ?_⟩
        exact H.out.1.alloc _
      | true =>
      by_cases e2 : x0 = x1
      · have g2 : (x0 == x1) = true := by simpa using e2
        have HC := Aside0.mk (chk_arc HA.out hl5 hlt (fun h => by rw [HX.out] at h; obtain ⟨h1, h2, h3, h4, h5⟩ := h; simp only at h1 h2 h3 h4 h5; exact h3 e2))
        go_wp2_with (go_at_call 26; refine (vertex_calls nb N _ _ ?_).mono ?_; (focus (go_simp; done)); rintro e w' ⟨rfl, rfl⟩)
        go_ret
        refine ⟨congrArg (fun x => Ending.returned (.int .i64 x)) HC.out.symm, ?_⟩
        exact H.out.1.alloc _
      have g2 : (x0 == x1) = false := by simpa using e2
      by_cases e3 : x2 < 0
      · have g3 : decide (x2 < 0) = true := by simpa using e3
        have HC := Aside0.mk (chk_arc HA.out hl5 hlt (fun h => by rw [HX.out] at h; obtain ⟨h1, h2, h3, h4, h5⟩ := h; simp only at h1 h2 h3 h4 h5; omega))
        go_wp2_with (go_at_call 26; refine (vertex_calls nb N _ _ ?_).mono ?_; (focus (go_simp; done)); rintro e w' ⟨rfl, rfl⟩)
        go_ret
        refine ⟨congrArg (fun x => Ending.returned (.int .i64 x)) HC.out.symm, ?_⟩
        exact H.out.1.alloc _
      have g3 : decide (x2 < 0) = false := by simpa using e3
      by_cases e4 : 1073741824 < x2
      · have g4 : decide (1073741824 < x2) = true := by simpa using e4
        have HC := Aside0.mk (chk_arc HA.out hl5 hlt (fun h => by rw [HX.out] at h; obtain ⟨h1, h2, h3, h4, h5⟩ := h; simp only at h1 h2 h3 h4 h5; omega))
        go_wp2_with (go_at_call 26; refine (vertex_calls nb N _ _ ?_).mono ?_; (focus (go_simp; done)); rintro e w' ⟨rfl, rfl⟩)
        go_ret
        refine ⟨congrArg (fun x => Ending.returned (.int .i64 x)) HC.out.symm, ?_⟩
        exact H.out.1.alloc _
      have g4 : decide (1073741824 < x2) = false := by simpa using e4
      have HE := Aside0.mk (show arcOk N (rd_T43 l k) by rw [HX.out]; exact ⟨e0, e1, e2, by show (0 : Int) ≤ x2; omega, by show x2 ≤ 1073741824; omega⟩)
      go_wp2_with (go_at_call 26; refine (vertex_calls nb N _ _ ?_).mono ?_; (focus (go_simp; done)); rintro e w' ⟨rfl, rfl⟩)
      go_roundw
      case rel =>
        obtain ⟨h1, h2, h3⟩ := H.out
        refine ⟨k + 1, by omega, by go_num, ⟨⟨h1.alloc _, ?_, fun j hj => ?_⟩⟩⟩
        · exact blk_alloc h2 _
        · by_cases hjk : j = k
          · subst hjk; exact HE.out
          · exact h3 j (by omega)
      case measure => simp [intOf]; omega
    · have hke : k = l.length := by omega
      have hz := chk_ok HA.out hl5 (fun j hj => hall j (by omega))
      have H := Aside0.mk (And.intro hch hz)
      clear hch hbk hall hz
      go_wp2
      go_ret
      exact ⟨congrArg (fun x => Ending.returned (.int .i64 x)) H.out.2.symm, H.out.1⟩
end Go.Proofs.Ytipfpckjgfjehaa
