/- Texts for VModuleBytesP. -/
import Derived.Test.YtoccjfeaaaaegaaGreatVp25
namespace Go.Proofs.YtoccjfeaaaaegaaGreat
open Go Go.RowKit
set_option linter.unusedVariables false
set_option linter.unusedSimpArgs false
section
attribute [local irreducible] IntKind.wrap
theorem putBytes_impl (s : ByteArray) (h : s.size ≤ 100000000) : Ret env.P 36 [.s s] (fun r => r = .s (baN (putB s))) := by
  have hp : Ret env.P 40 [.i .i64 (s.size : Int)] (fun r => r = .s (baN (lebL s.size))) := (putLeb_impl s.size (by omega)).toRet
  rw [putB_baN]
  refine ret_of (nt := 8) (rvs := [.tmp 2]) Tryz.func36 rfl rfl rfl rfl (fun X => ?_)
  repeat' (first | exact aa | ((conv => whnf) <;> (first | exact le_of2 (lb_size (by omega)) (by omega) | refine And.intro ?_ ?_ | (intro _h; first | contradiction | (try simp only [dd] at _h)) | (refine dt_go ?_) | exact rfl | exact True.intro | exact dkk | exact dks | ((first | refine .inl ⟨_, hp, ?_⟩ | refine ⟨_, hp, ?_⟩); (try rintro _ rfl)) | ((first | refine .inl ⟨_, lengthI_ok _, ?_⟩ | refine ⟨_, lengthI_ok _, ?_⟩); (try rintro _ rfl)) | (refine wrap_succ ?_; omega))))
theorem putLebI {n : Int} (h : 0 ≤ n ∧ n < 9223372036854775808) : Ret env.P 40 [.i .i64 n] (fun r => r = .s (baN (lebL n.toNat))) := (putLeb_implI h).toRet
theorem putLebBit (b : Bool) : Ret env.P 40 [.i .i64 (bitN b : Int)] (fun r => r = .s (baN [bitN b])) := by
  have := (putLeb_impl (bitN b) (by cases b <;> decide)).toRet
  rwa [lebL_small (by cases b <;> decide)] at this
theorem bit_ok (b : Bool) : Ret env.P 43 [.b b] (fun r => r = .i .i64 (bitN b : Int)) := by
  cases b with
  | false =>
    refine ret_of (nt := 4) (rvs := [.tmp 2]) Tryz.func43 rfl rfl rfl rfl (fun X => ?_)
    repeat' (first | exact aa | ((conv => whnf) <;> (first | refine And.intro ?_ ?_ | (intro _h; first | contradiction | (try simp only [dd] at _h)) | (refine dt_go ?_) | exact rfl | exact True.intro | exact dkk | exact dks | (refine wrap_succ ?_; omega))))
  | true =>
    refine ret_of (nt := 4) (rvs := [.tmp 2]) Tryz.func43 rfl rfl rfl rfl (fun X => ?_)
    repeat' (first | exact aa | ((conv => whnf) <;> (first | refine And.intro ?_ ?_ | (intro _h; first | contradiction | (try simp only [dd] at _h)) | (refine dt_go ?_) | exact rfl | exact True.intro | exact dkk | exact dks | (refine wrap_succ ?_; omega))))
theorem sizeImport_ok (l : List Import) : Ret env.P 41 [slL 3 Import.cs l] (fun r => r = .i .i64 (l.length : Int)) := by
  refine ret_of (nt := 5) (rvs := [.tmp 2]) Tryz.func41 rfl rfl rfl rfl (fun X => ?_)
  repeat' (first | exact aa | ((conv => whnf) <;> (first | refine And.intro ?_ ?_ | (intro _h; first | contradiction | (try simp only [dd] at _h)) | (refine dt_go ?_) | exact rfl | exact True.intro | exact dkk | exact dks | (refine wrap_succ ?_; omega))))
theorem sizeCore_ok (l : List Core) : Ret env.P 42 [slL 5 Core.cs l] (fun r => r = .i .i64 (l.length : Int)) := by
  refine ret_of (nt := 5) (rvs := [.tmp 2]) Tryz.func42 rfl rfl rfl rfl (fun X => ?_)
  repeat' (first | exact aa | ((conv => whnf) <;> (first | refine And.intro ?_ ?_ | (intro _h; first | contradiction | (try simp only [dd] at _h)) | (refine dt_go ?_) | exact rfl | exact True.intro | exact dkk | exact dks | (refine wrap_succ ?_; omega))))
theorem ba_assoc (a b c : ByteArray) : a ++ b ++ c = a ++ (b ++ c) := by
  apply ByteArray.ext
  simp only [ByteArray.data_append, Array.append_assoc]
theorem Module.ia_nextI (m : Module) {k : Nat} (h : k < m.imports.length) : m.ia k ++ (baN (putB (m.imports.getD k default).name) ++ baN (lebL (m.imports.getD k default).params.toNat) ++ baN [bitN (m.imports.getD k default).result]) = m.ia (k + 1) := by
  rw [← m.ia_next h]
  simp only [ba_assoc]
theorem Module.ca_nextI (m : Module) {k : Nat} (h : k < m.cores.length) : m.ca k ++ (baN (putB (m.cores.getD k default).name) ++ baN (lebL (m.cores.getD k default).params.toNat) ++ baN (lebL (m.cores.getD k default).locals.toNat) ++ baN [bitN (m.cores.getD k default).result]) = m.ca (k + 1) := by
  rw [← m.ca_next h]
  simp only [ba_assoc]
theorem le_in3 {a b c d : ByteArray} (h : a.size ≤ 1000000000) (h' : b.size ≤ 1000000000) (h'' : c.size ≤ 1000000000) (h3 : d.size ≤ 1000000000) : a.size + (b ++ c ++ d).size ≤ maxLen := by
  rw [size_app, size_app]
  exact Nat.le_trans (show _ ≤ 4000000000 by omega) (by decide)
theorem le_in4 {a b c d e : ByteArray} (h : a.size ≤ 1000000000) (h' : b.size ≤ 1000000000) (h'' : c.size ≤ 1000000000) (h3 : d.size ≤ 1000000000) (h4 : e.size ≤ 1000000000) : a.size + (b ++ c ++ d ++ e).size ≤ maxLen := by
  rw [size_app, size_app, size_app]
  exact Nat.le_trans (show _ ≤ 5000000000 by omega) (by decide)
set_option maxRecDepth 8000 in
set_option maxHeartbeats 4000000 in
theorem sectionsM_impl (m : Module) (h : m.good) : RetM env.P 18 [] [.agg m.cs] (fun r H => r = .row 0 4 ∧ H = [some (rowL 3 Section.cs m.secs)]) := by
  have hI : ∀ k, k < m.imports.length → (m.imports.getD k default).good := fun k hk => (h.im.h k hk).1
  have hC : ∀ k, k < m.cores.length → (m.cores.getD k default).good := fun k hk => (h.co.h k hk).1
  have li := h.li
  have lc := h.lc
  have hp := h.pages
  have h1 := m.ia_size h
  have h2 := m.ca_size h
  have h3 := m.da_size h
  have hB : ∀ k, k < m.cores.length → Ret env.P 44 [slL 2 Ins.cs (m.cores.getD k default).code] (fun r => r = .s (baN (bodyN (m.cores.getD k default).code))) := fun k hk => bodyBytes_impl _ (hC k hk).2.hc (hC k hk).2.hi
  have hbs : ∀ k, k < m.cores.length → (baN (bodyN (m.cores.getD k default).code)).size ≤ 100000000 := fun k hk => by
    rw [baN_size]
    have := bodyN_len (hC k hk).2.hc
    omega
  have hni : ∀ k, k < m.imports.length → (m.imports.getD k default).name.size ≤ 100000000 := fun k hk => by have := (hI k hk).1.hi; omega
  have hnc : ∀ k, k < m.cores.length → (m.cores.getD k default).name.size ≤ 100000000 := fun k hk => by have := (hC k hk).1.hi; omega
  have hip : ∀ k, k < m.imports.length → 0 ≤ (m.imports.getD k default).params ∧ (m.imports.getD k default).params < 9223372036854775808 := fun k hk => by have := (hI k hk).2; omega
  have hcp : ∀ k, k < m.cores.length → 0 ≤ (m.cores.getD k default).params ∧ (m.cores.getD k default).params < 9223372036854775808 := fun k hk => by have := (hC k hk).2.hp; omega
  have hcl : ∀ k, k < m.cores.length → 0 ≤ (m.cores.getD k default).locals ∧ (m.cores.getD k default).locals < 9223372036854775808 := fun k hk => by have := (hC k hk).2.hl; omega
  have hq : ∀ n : Int, 0 ≤ n ∧ n < 9223372036854775808 → (baN (lebL n.toNat)).size ≤ 1000000000 := fun n hn => lb_size (by omega)
  have hlI : Ret env.P 40 [.i .i64 (m.imports.length : Int)] (fun r => r = .s (m.ia 0)) := by rw [m.ia0]; exact (putLeb_impl _ (by omega)).toRet
  have hlC : Ret env.P 40 [.i .i64 (m.cores.length : Int)] (fun r => r = .s (baN (lebL m.cores.length))) := (putLeb_impl _ (by omega)).toRet
  refine ret_ofM (nt := 87) (rvs := [.tmp 2]) Tryz.func18 rfl rfl rfl rfl (fun X hX => ?_)
  repeat' (first | exact aa | ((conv => whnf) <;> (first | exact m.ia_nextI (by omega) | exact m.ca_nextI (by omega) | exact m.da_next (by omega) | exact m.ca0.symm | exact m.da0.symm | refine dt_goC [] ?_ | refine loopAt 25 m.imports.length (fun k => [(25, .i .i64 k), (3, .s (m.ia k))]) (fun k => []) (fun _ => True) rfl ⟨trivial, ?_⟩ | refine loopAt 47 m.cores.length (fun k => [(47, .i .i64 k), (4, .s (m.ca k)), (5, .s (m.da k))]) (fun k => []) (fun _ => True) rfl ⟨trivial, ?_⟩ | exact le_of2 (putB_size (hni _ (by omega))) (hq _ (hip _ (by omega))) | exact le_of3 (putB_size (hni _ (by omega))) (hq _ (hip _ (by omega))) (bit_size _) | exact le_in3 (h1 _) (putB_size (hni _ (by omega))) (hq _ (hip _ (by omega))) (bit_size _) | exact le_of2 (putB_size (hnc _ (by omega))) (hq _ (hcp _ (by omega))) | exact le_of3 (putB_size (hnc _ (by omega))) (hq _ (hcp _ (by omega))) (hq _ (hcl _ (by omega))) | exact le_of4 (putB_size (hnc _ (by omega))) (hq _ (hcp _ (by omega))) (hq _ (hcl _ (by omega))) (bit_size _) | exact le_in4 (h2 _) (putB_size (hnc _ (by omega))) (hq _ (hcp _ (by omega))) (hq _ (hcl _ (by omega))) (bit_size _) | exact le_of2 (h3 _) (putB_size (hbs _ (by omega))) | refine And.intro ?_ ?_ | (intro _h; first | contradiction | (try simp only [dd] at _h)) | (refine dt_go ?_) | exact rfl | exact True.intro | exact dkk | exact dks | ((first | refine .inl ⟨_, hlI, ?_⟩ | refine ⟨_, hlI, ?_⟩); (try rintro _ rfl)) | ((first | refine .inl ⟨_, hlC, ?_⟩ | refine ⟨_, hlC, ?_⟩); (try rintro _ rfl)) | ((first | refine .inl ⟨_, putBytes_impl _ (hni _ (by omega)), ?_⟩ | refine ⟨_, putBytes_impl _ (hni _ (by omega)), ?_⟩); (try rintro _ rfl)) | ((first | refine .inl ⟨_, putBytes_impl _ (hnc _ (by omega)), ?_⟩ | refine ⟨_, putBytes_impl _ (hnc _ (by omega)), ?_⟩); (try rintro _ rfl)) | ((first | refine .inl ⟨_, putBytes_impl _ (hbs _ (by omega)), ?_⟩ | refine ⟨_, putBytes_impl _ (hbs _ (by omega)), ?_⟩); (try rintro _ rfl)) | ((first | refine .inl ⟨_, putLebI (hip _ (by omega)), ?_⟩ | refine ⟨_, putLebI (hip _ (by omega)), ?_⟩); (try rintro _ rfl)) | ((first | refine .inl ⟨_, putLebI (hcp _ (by omega)), ?_⟩ | refine ⟨_, putLebI (hcp _ (by omega)), ?_⟩); (try rintro _ rfl)) | ((first | refine .inl ⟨_, putLebI (hcl _ (by omega)), ?_⟩ | refine ⟨_, putLebI (hcl _ (by omega)), ?_⟩); (try rintro _ rfl)) | ((first | refine .inl ⟨_, putLebI (n := m.pages) (by omega), ?_⟩ | refine ⟨_, putLebI (n := m.pages) (by omega), ?_⟩); (try rintro _ rfl)) | ((first | refine .inl ⟨_, bit_ok _, ?_⟩ | refine ⟨_, bit_ok _, ?_⟩); (try rintro _ rfl)) | ((first | refine .inl ⟨_, putLebBit _, ?_⟩ | refine ⟨_, putLebBit _, ?_⟩); (try rintro _ rfl)) | ((first | refine .inl ⟨_, sizeImport_ok _, ?_⟩ | refine ⟨_, sizeImport_ok _, ?_⟩); (try rintro _ rfl)) | ((first | refine .inl ⟨_, sizeCore_ok _, ?_⟩ | refine ⟨_, sizeCore_ok _, ?_⟩); (try rintro _ rfl)) | ((first | refine .inl ⟨_, hB _ (by omega), ?_⟩ | refine ⟨_, hB _ (by omega), ?_⟩); (try rintro _ rfl)) | (refine wrap_succ ?_; omega))))
  all_goals (conv => whnf)
  rename_i k _ _ _ k' _ _
  have e1 := m.ia_last (k := k) (by omega)
  have e2 := m.ca_last (k := k') (by omega)
  have e3 := m.da_last (k := k') (by omega)
  refine endM_turn (turn_eq (id := 1) (x := rowL 3 Section.cs m.secs) rfl rfl rfl rfl rfl (fun i j hi hj => ?_)) ?_
  · have hi4 : i < 4 := hi
    have hj3 : j < 3 := hj
    rcases (show i = 0 ∨ i = 1 ∨ i = 2 ∨ i = 3 by omega) with rfl | rfl | rfl | rfl <;> rcases (show j = 0 ∨ j = 1 ∨ j = 2 by omega) with rfl | rfl | rfl <;> first
      | exact .refl _
      | (show OwEq (.s (m.ia k)) (.s (baN m.s2)); rw [e1]; exact .refl _)
      | (show OwEq (.s (m.ca k')) (.s (baN m.s3)); rw [e2]; exact .refl _)
      | (show OwEq (.s (m.da k')) (.s (baN m.s4)); rw [e3]; exact .refl _)
  exact endM_pick [1] [some (rowL 3 Section.cs m.secs)] (.row 0 4) (view_of rfl (.cons rfl (.self (rowPl_L fun _ => rfl)) .nil)) rfl rfl (fun k hk => by rw [hX] at hk; exact absurd hk (Nat.not_lt_zero _)) ⟨rfl, rfl⟩
end
end Go.Proofs.YtoccjfeaaaaegaaGreat
