/-
  Shelves that are read: the program and the reference call the same ones valid. Plain Lean, no program in sight.
-/
import Derived.Test.YtaiohiincgpomaaVShM
namespace Go.Proofs.Ytaiohiincgpomaa
open Go Go.RowKit
set_option linter.unusedVariables false
set_option linter.unusedSimpArgs false

theorem pigeon {α : Type} [DecidableEq α] : ∀ (n : Nat) (l : List α) (f : Nat → α), (∀ i, i < n → f i ∈ l) → (∀ i j, i < j → j < n → f i ≠ f j) → n ≤ l.length
  | 0, _, _, _, _ => Nat.zero_le _
  | n + 1, l, f, h1, h2 => by
    have hm := h1 n (by omega)
    have := pigeon n (l.erase (f n)) f (fun i hi => (List.mem_erase_of_ne (h2 i n hi (by omega))).2 (h1 i (by omega))) (fun i j hi hj => h2 i j hi (by omega))
    rw [List.length_erase_of_mem hm] at this
    have := List.length_pos_of_mem hm
    omega

theorem getD_mem {α : Type} [Inhabited α] {l : List α} {k : Nat} (h : k < l.length) : l.getD k default ∈ l := by
  rw [List.getD_eq_getElem?_getD, List.getElem?_eq_getElem h]
  exact List.getElem_mem h
theorem mem_all {s : Shelf} {i k : Nat} (hi : i < s.tables.length) (hk : k < (s.tables.getD i default).entries.length) : (s.tables.getD i default).entries.getD k default ∈ s.all :=
  List.mem_flatMap.2 ⟨_, getD_mem hi, getD_mem hk⟩
theorem at_mem {s : Shelf} {who num : Int} {x : Entry} (h : s.at_ who num = some x) : x ∈ s.all := by
  by_cases hw : 0 ≤ who ∧ who < (s.tables.length : Int)
  · rw [at_find hw] at h
    obtain ⟨k, hk, rfl⟩ := Option.map_eq_some_iff.1 h
    exact mem_all (by omega) (find_lt hk).1
  · rw [at_out hw] at h
    cases h
theorem all_length (l : List Table) (h : ∀ t ∈ l, t.entries.length ≤ 12) : (l.flatMap Table.entries).length ≤ 12 * l.length := by
  induction l with
  | nil => exact Nat.le_refl _
  | cons t l ih =>
    have h1 := h t (by simp)
    have h2 := ih fun t ht => h t (by simp [ht])
    simp only [List.flatMap_cons, List.length_append, List.length_cons]
    omega

theorem chain_on {s : Shelf} {e x : Entry} (h : s.orig e = some x) : ∀ j, s.chain e (j + 1) = s.chain x j
  | 0 => by simp [Shelf.chain, h]
  | j + 1 => by
    have := chain_on h j
    show (s.orig (s.chain e (j + 1))).getD default = (s.orig (s.chain x j)).getD default
    rw [this]
theorem chain_same {s : Shelf} {e : Entry} {i j : Nat} (h : s.chain e i = s.chain e j) : ∀ t, s.chain e (i + t) = s.chain e (j + t)
  | 0 => h
  | t + 1 => by
    have := chain_same h t
    show (s.orig (s.chain e (i + t))).getD default = (s.orig (s.chain e (j + t))).getD default
    rw [this]

/-- A chain that ends in n + 1 steps ends in n, or takes as many as it can. -/
theorem step_cases {s : Shelf} : ∀ (n : Nat) (e : Entry), s.sEnds (n + 1) e = true → s.sEnds n e = true ∨ ((∀ j, j < n → (s.chain e j).own = false ∧ s.orig (s.chain e j) = some (s.chain e (j + 1))) ∧ (s.chain e n).own = true)
  | 0, e, h => by
    right
    refine ⟨fun j hj => by omega, ?_⟩
    cases ho : e.own with
    | true => exact ho
    | false =>
      cases hE : s.orig e with
      | none => rw [Shelf.sEnds_none ho hE] at h; cases h
      | some x =>
        by_cases hi : x.id = e.id
        · rw [Shelf.sEnds_on ho hE hi] at h; cases h
        · rw [Shelf.sEnds_id ho hE hi] at h; cases h
  | n + 1, e, h => by
    cases ho : e.own with
    | true => exact .inl (Shelf.sEnds_own ho)
    | false =>
      cases hE : s.orig e with
      | none => rw [Shelf.sEnds_none ho hE] at h; cases h
      | some x =>
        by_cases hi : x.id = e.id
        · rw [Shelf.sEnds_on ho hE hi] at h
          rcases step_cases n x h with q | ⟨q1, q2⟩
          · left
            rw [Shelf.sEnds_on ho hE hi]
            exact q
          · right
            refine ⟨fun j hj => ?_, by rw [chain_on hE]; exact q2⟩
            cases j with
            | zero => exact ⟨ho, by rw [chain_on hE]; exact hE⟩
            | succ j =>
              rw [chain_on hE, chain_on hE]
              exact q1 j (by omega)
        · rw [Shelf.sEnds_id ho hE hi] at h; cases h
theorem sEnds_mono {s : Shelf} : ∀ (n : Nat) (e : Entry), s.sEnds n e = true → s.sEnds (n + 1) e = true
  | 0, e, h => by cases h
  | n + 1, e, h => by
    cases ho : e.own with
    | true => exact Shelf.sEnds_own ho
    | false =>
      cases hE : s.orig e with
      | none => rw [Shelf.sEnds_none ho hE] at h; cases h
      | some x =>
        by_cases hi : x.id = e.id
        · rw [Shelf.sEnds_on ho hE hi] at h ⊢
          exact sEnds_mono n x h
        · rw [Shelf.sEnds_id ho hE hi] at h; cases h
/-- A chain of entries that are not own repeats before it is longer than the shelf. -/
theorem ends_short {s : Shelf} {e : Entry} {n : Nat} (hl : s.all.length < n) (he : e ∈ s.all) (h : s.sEnds (n + 1) e = true) : s.sEnds n e = true := by
  rcases step_cases n e h with q | ⟨q1, q2⟩
  · exact q
  exfalso
  have := pigeon n s.all (s.chain e) (fun i hi => by
    cases i with
    | zero => exact he
    | succ i => exact at_mem (q1 i (by omega)).2) (fun i j hij hj heq => by
    have h1 := chain_same heq (n - j)
    rw [show j + (n - j) = n by omega] at h1
    have h2 := (q1 (i + (n - j)) (by omega)).1
    rw [h1, q2] at h2
    cases h2)
  omega
theorem ends_eq {s : Shelf} : ∀ (n : Nat) (e : Entry), e.own = false → s.ends n e = s.sEnds (n + 1) e
  | 0, e, ho => by
    cases hE : s.orig e with
    | none => rw [Shelf.sEnds_none ho hE]; rfl
    | some x =>
      by_cases hi : x.id = e.id
      · rw [Shelf.sEnds_on ho hE hi]; rfl
      · rw [Shelf.sEnds_id ho hE hi]; rfl
  | n + 1, e, ho => by
    cases hE : s.orig e with
    | none => rw [Shelf.sEnds_none ho hE, Shelf.ends_none hE]
    | some x =>
      by_cases hi : x.id = e.id
      · rw [Shelf.sEnds_on ho hE hi]
        cases hx : x.own with
        | true => rw [Shelf.ends_own hE hi hx, Shelf.sEnds_own hx]
        | false => rw [Shelf.ends_on hE hi hx]; exact ends_eq n x hx
      · rw [Shelf.sEnds_id ho hE hi, Shelf.ends_id hE hi]

theorem good_iff (s : Shelf) : s.good ↔ s.sGood := by
  constructor
  · rintro ⟨h1, h2, h3, h4, h5, h6⟩
    have hall : s.all.length < 85 := by
      have := all_length s.tables fun t ht => by
        obtain ⟨k, hk⟩ := List.getElem?_of_mem ht
        have := (h4 k (List.getElem?_eq_some_iff.1 hk).1).2.2
        rw [List.getD_eq_getElem?_getD, hk] at this
        exact this
      unfold Shelf.all
      omega
    refine ⟨⟨h1, h2, h3⟩, fun k hk => ⟨h4 k hk, fun j hj => ?_⟩, fun i k hi hk => ?_, h6⟩
    · obtain ⟨q1, q2, q3⟩ := h5 k j hk hj
      refine ⟨q1, ?_⟩
      cases ho : ((s.tables.getD k default).entries.getD j default).own with
      | true => rw [ho] at q2; exact q2
      | false => rw [ho] at q2; exact q2.1
    · obtain ⟨q1, q2, q3⟩ := h5 i k hi hk
      refine ⟨?_, q3⟩
      cases ho : ((s.tables.getD i default).entries.getD k default).own with
      | true => exact Shelf.sEnds_own ho
      | false =>
        rw [ho, if_neg (by decide)] at q2
        have := q2.2
        rw [ends_eq _ _ ho] at this
        exact ends_short hall (mem_all hi hk) this
  · rintro ⟨⟨h1, h2, h3⟩, h4, h5, h6⟩
    refine ⟨h1, h2, h3, fun k hk => (h4 k hk).1, fun i k hi hk => ?_, h6⟩
    obtain ⟨q1, q2⟩ := (h4 i hi).2 k hk
    obtain ⟨g1, g2⟩ := h5 i k hi hk
    refine ⟨q1, ?_, g2⟩
    cases ho : ((s.tables.getD i default).entries.getD k default).own with
    | true => rw [ho] at q2; exact q2
    | false =>
      rw [ho, if_neg (by decide)] at q2
      rw [if_neg (by decide)]
      exact ⟨q2, by rw [ends_eq _ _ ho]; exact sEnds_mono _ _ g1⟩
end Go.Proofs.Ytaiohiincgpomaa
