/-
  The plain side of flow.levels: what the levels are. No program in sight.
-/
import Derived.Test.YtipfpckjgfjehaaP3
namespace Go.Proofs.Ytipfpckjgfjehaa
set_option linter.unusedVariables false
set_option linter.unusedSimpArgs false
open PFlowMaxSpec

theorem gi_eq {m : List Int} {u v : Int} (h : u.toNat = v.toNat) : gi m u = gi m v := by unfold gi; rw [h]
theorem gi_set_ne {m : List Int} {i j x : Int} (h : i.toNat ≠ j.toNat) : gi (m.set i.toNat x) j = gi m j := by
  unfold gi
  rw [List.getD_eq_getElem?_getD, List.getElem?_set_ne h, ← List.getD_eq_getElem?_getD]

section
variable (l : List S43) (much : List Int) (out : Int → List Int) (N s : Int)
/-- What a round has done so far. -/
structure BS (d : Int) (lev : List Int) (st : List Int × List Int) : Prop where
  len : st.1.length = 64
  keep : ∀ v : Int, 0 ≤ gi lev v → gi st.1 v = gi lev v
  new : ∀ v : Int, 0 ≤ v → gi lev v < 0 → 0 ≤ gi st.1 v → gi st.1 v = d ∧ v < N ∧ v ∈ st.2 ∧ ∃ u i, 0 ≤ u ∧ gi lev u = d - 1 ∧ i ∈ out u ∧ 0 < gi much i ∧ toV l i = v
  mem : ∀ v ∈ st.2, 0 ≤ v ∧ v < N ∧ gi st.1 v = d
  low : ∀ v, -1 ≤ gi st.1 v
/-- What holds of the levels between two rounds. -/
structure BL (lev now : List Int) (d : Int) : Prop where
  len : lev.length = 64
  src : gi lev s = 0
  pred : ∀ v : Int, 0 ≤ v → 0 < gi lev v → ∃ u i, 0 ≤ u ∧ gi lev u = gi lev v - 1 ∧ i ∈ out u ∧ 0 < gi much i ∧ toV l i = v
  zero : ∀ v : Int, 0 ≤ v → v < 64 → gi lev v = 0 → v = s
  closed : ∀ u : Int, 0 ≤ u → u < 64 → 0 ≤ gi lev u → u ∈ now ∨ ∀ i ∈ out u, 0 < gi much i → 0 ≤ gi lev (toV l i)
  now : ∀ u ∈ now, 0 ≤ u ∧ u < N ∧ gi lev u = d - 1
  low : ∀ v, -1 ≤ gi lev v
  top : ∀ v, gi lev v ≤ d - 1
  rng : ∀ v : Int, 0 ≤ v → v < 64 → 0 ≤ gi lev v → v < N
structure LevOk (lev : List Int) : Prop where
  len : lev.length = 64
  src : gi lev s = 0
  pred : ∀ v : Int, 0 ≤ v → 0 < gi lev v → ∃ u i, 0 ≤ u ∧ gi lev u = gi lev v - 1 ∧ i ∈ out u ∧ 0 < gi much i ∧ toV l i = v
  zero : ∀ v : Int, 0 ≤ v → v < 64 → gi lev v = 0 → v = s
  closed : ∀ u : Int, 0 ≤ u → u < 64 → 0 ≤ gi lev u → ∀ i ∈ out u, 0 < gi much i → 0 ≤ gi lev (toV l i)
  low : ∀ v, -1 ≤ gi lev v
  top : ∀ v, gi lev v ≤ 65
  rng : ∀ v : Int, 0 ≤ v → v < 64 → 0 ≤ gi lev v → v < N
end

section
variable {l : List S43} {much : List Int} {out : Int → List Int} {N s : Int}
def Mono (st st' : List Int × List Int) : Prop := ∀ v, 0 ≤ gi st.1 v → gi st'.1 v = gi st.1 v
theorem Mono.refl (st : List Int × List Int) : Mono st st := fun _ _ => rfl
theorem Mono.trans {a b c : List Int × List Int} (h : Mono a b) (k : Mono b c) : Mono a c := fun v hv => by
  have := h v hv
  rw [k v (by omega), this]

theorem BS.arc {d : Int} {lev : List Int} {st : List Int × List Int} (h : BS l much out N d lev st) {u i : Int} (hd : 0 ≤ d) (hu0 : 0 ≤ u) (hu : gi lev u = d - 1) (hi : i ∈ out u) (ho : 0 < gi much i) (h0 : 0 ≤ toV l i) (h1 : toV l i < N) (hN : N ≤ 64) :
    BS l much out N d lev (bfsArc l d st i) ∧ Mono st (bfsArc l d st i) ∧ 0 ≤ gi (bfsArc l d st i).1 (toV l i) := by
  unfold bfsArc
  split
  · rename_i hlt
    have hlt' : gi st.1 (toV l i) < 0 := hlt
    have hl := h.len
    have hne : ∀ v, 0 ≤ gi st.1 v → (toV l i).toNat ≠ v.toNat := fun v hv e => by
      rw [← gi_eq e] at hv; omega
    have hs : gi (st.1.set (toV l i).toNat d) (toV l i) = d := gi_set_same h0 (by omega)
    refine ⟨⟨by simp [hl], fun v hv => ?_, fun v hv0 hv hp => ?_, fun v hv => ?_, fun v => ?_⟩, fun v hv => gi_set_ne (hne v hv), by show 0 ≤ gi (st.1.set _ _) _; omega⟩
    · rw [show gi (st.1.set (toV l i).toNat d, st.2 ++ [toV l i]).1 v = gi st.1 v from gi_set_ne (hne v (by rw [h.keep v hv]; exact hv))]
      exact h.keep v hv
    · by_cases e : v = toV l i
      · subst e
        exact ⟨hs, h1, by simp, u, i, hu0, hu, hi, ho, rfl⟩
      · have e1 : gi (st.1.set (toV l i).toNat d) v = gi st.1 v := gi_set_ne (by omega)
        obtain ⟨a, a1, b, c⟩ := h.new v hv0 hv (by rw [← e1]; exact hp)
        exact ⟨e1.trans a, a1, by simp [b], c⟩
    · rcases List.mem_append.1 hv with hv | hv
      · obtain ⟨a, b, c⟩ := h.mem v hv
        exact ⟨a, b, (gi_set_ne (hne v (by omega))).trans c⟩
      · rw [List.mem_singleton] at hv; subst hv; exact ⟨h0, h1, hs⟩
    · by_cases e : (toV l i).toNat = v.toNat
      · rw [show gi (st.1.set (toV l i).toNat d, st.2 ++ [toV l i]).1 v = d by rw [← gi_eq e]; exact hs]; omega
      · rw [show gi (st.1.set (toV l i).toNat d, st.2 ++ [toV l i]).1 v = gi st.1 v from gi_set_ne e]; exact h.low v
  · rename_i hlt
    exact ⟨h, Mono.refl _, by have : ¬ gi st.1 (toV l i) < 0 := hlt; omega⟩

theorem BS.vert {d : Int} {lev : List Int} {st : List Int × List Int} (h : BS l much out N d lev st) {u : Int} (hd : 0 ≤ d) (hu0 : 0 ≤ u) (hu : gi lev u = d - 1) (hN : N ≤ 64) (hh : ∀ i ∈ out u, 0 ≤ toV l i ∧ toV l i < N) :
    BS l much out N d lev (bfsV l much out d st u) ∧ Mono st (bfsV l much out d st u) ∧ ∀ i ∈ out u, 0 < gi much i → 0 ≤ gi (bfsV l much out d st u).1 (toV l i) := by
  unfold bfsV
  have key := foldl_rev (bfsArc l d) (fun ys b => BS l much out N d lev b ∧ Mono st b ∧ ∀ i ∈ ys, 0 ≤ gi b.1 (toV l i)) st ⟨h, Mono.refl _, by simp⟩ ((out u).filter (isOpen much)) (by
    intro ys x zs b he ⟨h1, h2, h3⟩
    have hx : x ∈ (out u).filter (isOpen much) := by rw [he]; simp
    obtain ⟨hx1, hx2⟩ := List.mem_filter.1 hx
    have ho : 0 < gi much x := of_decide_eq_true hx2
    obtain ⟨a, m, c⟩ := h1.arc hd hu0 hu hx1 ho (hh x hx1).1 (hh x hx1).2 hN
    refine ⟨a, h2.trans m, fun i hi => ?_⟩
    rcases List.mem_append.1 hi with hi | hi
    · have := h3 i hi
      rw [m _ this]; exact this
    · rw [List.mem_singleton] at hi; subst hi; exact c)
  exact ⟨key.1, key.2.1, fun i hi ho => key.2.2 i (List.mem_filter.2 ⟨hi, decide_eq_true ho⟩)⟩

theorem BL.round {lev now : List Int} {d : Int} (h : BL l much out N s lev now d) (hd : 1 ≤ d) (hN : N ≤ 64) (hh : ∀ u, 0 ≤ u → u < N → ∀ i ∈ out u, 0 ≤ toV l i ∧ toV l i < N) :
    BL l much out N s (bfsRound l much out d lev now).1 (bfsRound l much out d lev now).2 (d + 1) := by
  unfold bfsRound
  have h0 : BS l much out N d lev (lev, []) := ⟨h.len, fun _ _ => rfl, fun v _ hv hp => by have hp : 0 ≤ gi lev v := hp; omega, by simp, h.low⟩
  have key := foldl_rev (bfsV l much out d) (fun ys b => BS l much out N d lev b ∧ Mono (lev, []) b ∧ ∀ u ∈ ys, ∀ i ∈ out u, 0 < gi much i → 0 ≤ gi b.1 (toV l i)) (lev, []) ⟨h0, Mono.refl _, by simp⟩ now (by
    intro ys x zs b he ⟨h1, h2, h3⟩
    have hx : x ∈ now := by rw [he]; simp
    obtain ⟨x0, x1, x2⟩ := h.now x hx
    obtain ⟨a, m, c⟩ := h1.vert (by omega) x0 x2 hN (hh x x0 x1)
    refine ⟨a, h2.trans m, fun u hu i hi ho => ?_⟩
    rcases List.mem_append.1 hu with hu | hu
    · have := h3 u hu i hi ho
      rw [m _ this]; exact this
    · rw [List.mem_singleton] at hu; subst hu; exact c i hi ho)
  obtain ⟨hb, hm, hc⟩ := key
  generalize now.foldl (bfsV l much out d) (lev, []) = st at hb hm hc
  have hcase : ∀ v : Int, 0 ≤ v → 0 ≤ gi st.1 v → gi st.1 v = gi lev v ∧ 0 ≤ gi lev v ∨ gi lev v < 0 ∧ gi st.1 v = d := fun v hv0 hv => by
    rcases Int.lt_or_le (gi lev v) 0 with hl | hl
    · exact .inr ⟨hl, (hb.new v hv0 hl hv).1⟩
    · exact .inl ⟨hb.keep v hl, hl⟩
  refine ⟨hb.len, by rw [hb.keep s (by rw [h.src]; omega)]; exact h.src, fun v hv0 hv => ?_, fun v hv0 hv64 hv => ?_, fun u hu0 hu64 hu => ?_, fun u hu => ?_, hb.low, fun v => ?_, fun v hv0 hv64 hv => ?_⟩
  · rcases hcase v hv0 (by omega) with ⟨e, hl⟩ | ⟨hl, e⟩
    · obtain ⟨u, i, u0, hu, hi, ho, ht⟩ := h.pred v hv0 (by omega)
      exact ⟨u, i, u0, by rw [hb.keep u (by omega), hu, e], hi, ho, ht⟩
    · obtain ⟨_, _, _, u, i, u0, hu, hi, ho, ht⟩ := hb.new v hv0 hl (by omega)
      exact ⟨u, i, u0, by rw [hb.keep u (by omega), hu, e], hi, ho, ht⟩
  · rcases hcase v hv0 (by omega) with ⟨e, hl⟩ | ⟨hl, e⟩
    · exact h.zero v hv0 hv64 (by omega)
    · omega
  · rcases hcase u hu0 hu with ⟨e, hl⟩ | ⟨hl, e⟩
    · right
      rcases h.closed u hu0 hu64 hl with hn | hcl
      · exact hc u hn
      · intro i hi ho
        have := hcl i hi ho
        rw [hb.keep _ this]; exact this
    · exact .inl (hb.new u hu0 hl (by omega)).2.2.1
  · obtain ⟨a, b, c⟩ := hb.mem u hu
    exact ⟨a, b, by rw [c]; omega⟩
  · rcases Int.lt_or_le (gi st.1 v) 0 with hl | hl
    · omega
    · have hv : gi st.1 (v.toNat : Int) = gi st.1 v := gi_eq (by rw [Int.toNat_natCast])
      have hv' : gi lev (v.toNat : Int) = gi lev v := gi_eq (by rw [Int.toNat_natCast])
      rcases hcase (v.toNat : Int) (by omega) (by omega) with ⟨e, _⟩ | ⟨_, e⟩
      · have := h.top v; omega
      · omega
  · rcases hcase v hv0 hv with ⟨e, hl⟩ | ⟨hl, e⟩
    · exact h.rng v hv0 hv64 hl
    · exact (hb.new v hv0 hl (by omega)).2.1

theorem BL.final {lev : List Int} {d : Int} (h : BL l much out N s lev [] d) (hd : d ≤ 66) : LevOk l much out N s lev :=
  ⟨h.len, h.src, h.pred, h.zero, fun u u0 u64 hu => (h.closed u u0 u64 hu).elim (fun hn => by simp at hn) (fun h => h), h.low, fun v => by have := h.top v; omega, h.rng⟩

theorem bfs_ok (hN : N ≤ 64) (hh : ∀ u, 0 ≤ u → u < N → ∀ i ∈ out u, 0 ≤ toV l i ∧ toV l i < N) : ∀ (k : Nat) (lev now : List Int) (d : Int), BL l much out N s lev now d → 1 ≤ d → d + k = 66 → negs lev + 1 ≤ k → LevOk l much out N s (bfs l much out k lev now d)
  | 0, _, _, _, _, _, _, h => by omega
  | k + 1, lev, now, d, h, hd, hdk, hn => by
    have hr := h.round hd hN hh
    have hLv : Lv N (negs lev) (bfsRound l much out d lev now) := by
      have := Lv.now (N := N) (l := l) (much := much) (out := out) (d := d) (lev := lev) (now := now) (m := negs lev) ⟨h.len, by simp, by simp⟩ hN (by omega) (fun u hu => ⟨(h.now u hu).1, (h.now u hu).2.1⟩) hh now.length
      rwa [bfsNow_all] at this
    unfold bfs
    split
    · rename_i he
      rw [he] at hr
      exact hr.final (by omega)
    · rename_i he
      have hp : 0 < (bfsRound l much out d lev now).2.length := List.length_pos_iff.2 he
      have := hLv.sum
      exact bfs_ok hN hh k _ _ _ hr (by omega) (by omega) (by omega)

theorem negs_lev0 (s : Int) (h0 : 0 ≤ s) (h1 : s < 64) : negs (lev0 s) = 63 := by
  obtain ⟨n, rfl⟩ : ∃ n : Nat, s = n := ⟨s.toNat, by omega⟩
  have hn : n < 64 := by omega
  clear h0 h1
  revert n
  decide +kernel
theorem gi_lev0 (s v : Int) (h0 : 0 ≤ s) (h1 : s < 64) : gi (lev0 s) v = 0 ∧ v.toNat = s.toNat ∨ (gi (lev0 s) v = -1 ∨ gi (lev0 s) v = 0 ∧ 64 ≤ v.toNat) := by
  unfold gi lev0
  rw [List.getD_eq_getElem?_getD]
  by_cases e : s.toNat = v.toNat
  · left
    rw [e, List.getElem?_set_self (by simp; omega)]
    exact ⟨rfl, rfl⟩
  · right
    rw [List.getElem?_set_ne e, List.getElem?_replicate]
    split
    · exact .inl rfl
    · exact .inr ⟨rfl, by omega⟩
theorem BL.start (hs : 0 ≤ s) (hsN : s < N) (hN : N ≤ 64) : BL l much out N s (lev0 s) [s] 1 := by
  have key := fun v => gi_lev0 s v hs (by omega)
  have hs0 : gi (lev0 s) s = 0 := by
    unfold gi lev0
    rw [List.getD_eq_getElem?_getD, List.getElem?_set_self (by simp; omega)]
    rfl
  refine ⟨by simp [lev0], hs0, fun v v0 hv => ?_, fun v v0 v64 hv => ?_, fun u u0 u64 hu => ?_, fun u hu => ?_, fun v => ?_, fun v => ?_, fun v v0 v64 hv => ?_⟩
  · rcases key v with ⟨a, _⟩ | a | ⟨a, _⟩ <;> omega
  · rcases key v with ⟨a, _⟩ | a | ⟨a, _⟩ <;> omega
  · left; rcases key u with ⟨a, _⟩ | a | ⟨a, _⟩
    · rw [List.mem_singleton]; omega
    · omega
    · omega
  · rw [List.mem_singleton] at hu; subst hu; exact ⟨hs, hsN, by omega⟩
  · rcases key v with ⟨a, _⟩ | a | ⟨a, _⟩ <;> omega
  · rcases key v with ⟨a, _⟩ | a | ⟨a, _⟩ <;> omega
  · rcases key v with ⟨a, _⟩ | a | ⟨a, _⟩ <;> omega
/-- The levels of a network. -/
def levs (l : List S43) (much : List Int) (s : Int) : List Int := bfs l much (outK l l.length) 65 (lev0 s) [s] 1
theorem levs_ok (hs : 0 ≤ s) (hsN : s < N) (hN : N ≤ 64) (hh : ∀ u, 0 ≤ u → u < N → ∀ i ∈ outK l l.length u, 0 ≤ toV l i ∧ toV l i < N) : LevOk l much (outK l l.length) N s (levs l much s) :=
  bfs_ok hN hh 65 _ _ _ (BL.start hs hsN hN) (by omega) (by omega) (by rw [negs_lev0 s hs (by omega)]; omega)
end
end Go.Proofs.Ytipfpckjgfjehaa
