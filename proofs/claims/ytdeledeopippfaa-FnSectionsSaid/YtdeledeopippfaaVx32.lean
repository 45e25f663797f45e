/- Texts for VSectionsP. -/
import Derived.Test.YtdeledeopippfaaVx31
namespace Go.Proofs.Ytdeledeopippfaa
open Go Go.RowKit
set_option linter.unusedVariables false
set_option linter.unusedSimpArgs false
section
attribute [local irreducible] IntKind.wrap
theorem baN_appS (l : List Nat) (s : ByteArray) : baN l ++ s = baN (l ++ bsN s) := by
  rw [← baN_app, baN_bs]
theorem putB_baN (s : ByteArray) : baN (putB s) = baN (lebL s.size) ++ s := by
  unfold putB
  rw [baN_appS]
theorem putB_N {l : List Nat} (h : ∀ x ∈ l, x < 256) : putB (baN l) = putN l := by
  unfold putB putN
  rw [baN_size, bsN_ba h]
theorem le_of2 {a b : ByteArray} (h : a.size ≤ 1000000000) (h' : b.size ≤ 1000000000) : a.size + b.size ≤ maxLen := Nat.le_trans (show _ ≤ 2000000000 by omega) (by decide)
theorem le_of3 {a b c : ByteArray} (h : a.size ≤ 1000000000) (h' : b.size ≤ 1000000000) (h'' : c.size ≤ 1000000000) : (a ++ b).size + c.size ≤ maxLen := by
  rw [size_app]
  exact Nat.le_trans (show _ ≤ 3000000000 by omega) (by decide)
theorem le_of4 {a b c d : ByteArray} (h : a.size ≤ 1000000000) (h' : b.size ≤ 1000000000) (h'' : c.size ≤ 1000000000) (h3 : d.size ≤ 1000000000) : (a ++ b ++ c).size + d.size ≤ maxLen := by
  rw [size_app, size_app]
  exact Nat.le_trans (show _ ≤ 4000000000 by omega) (by decide)
theorem le_of5 {a b c d e : ByteArray} (h : a.size ≤ 1000000000) (h' : b.size ≤ 1000000000) (h'' : c.size ≤ 1000000000) (h3 : d.size ≤ 1000000000) (h4 : e.size ≤ 1000000000) : (a ++ b ++ c ++ d).size + e.size ≤ maxLen := by
  rw [size_app, size_app, size_app]
  exact Nat.le_trans (show _ ≤ 5000000000 by omega) (by decide)
theorem lb_size {n : Nat} (h : n < 9223372036854775808) : (baN (lebL n)).size ≤ 1000000000 := by
  rw [baN_size]
  have := lb9 h
  omega
theorem putB_size {s : ByteArray} (h : s.size ≤ 100000000) : (baN (putB s)).size ≤ 1000000000 := by
  rw [putB_baN, size_app, baN_size]
  have := lb9 (n := s.size) (by omega)
  omega
theorem bit_size (b : Bool) : (baN [bitN b]).size ≤ 1000000000 := by
  rw [baN_size]
  show 1 ≤ _
  omega
theorem one_size (n : Nat) : (baN [n]).size ≤ 1000000000 := by
  rw [baN_size]
  show 1 ≤ _
  omega
theorem putBytes_spec (s : ByteArray) (h : s.size ≤ 100000000) : Ret env.P 86 [.s s] (fun r => r = .s (baN (putB s))) := by
  have hp : Ret env.P 53 [.i .i64 (s.size : Int)] (fun r => r = .s (baN (lebL s.size))) := (putLeb_spec s.size (by omega)).toRet
  rw [putB_baN]
  refine ret_of (nt := 8) (rvs := [.tmp 2]) Try.func86 rfl rfl rfl rfl (fun X => ?_)
  repeat' (first | omega | (with_reducible show (_ : Int) < _; dsimp only; omega) | (with_reducible show (_ : Nat) ≤ _; dsimp only; omega) | ((with_reducible show SrcOk _ _ _) <;> (first | exact srcOk_1 rfl | exact srcOk_L (fun _ => ⟨rfl, rfl⟩) | exact srcOk_E (fun _ => ⟨rfl, rfl⟩))) | ((conv => whnf) <;> (first | exact le_of2 (lb_size (by omega)) (by omega) | refine And.intro ?_ ?_ | (intro _h; first | contradiction | (try simp only [dd] at _h)) | (refine dt_go ?_) | exact rfl | exact True.intro | exact dkk | exact dks | ((first | refine .inl ⟨_, hp, ?_⟩ | refine ⟨_, hp, ?_⟩); (try rintro _ rfl)) | (refine wrap_succ ?_; omega))))
theorem l17Bit_ok (b : Bool) : Ret env.P 87 [.b b] (fun r => r = .s (baN [bitN b])) := by
  cases b with
  | false =>
    refine ret_of (nt := 4) (rvs := [.tmp 2]) Try.func87 rfl rfl rfl rfl (fun X => ?_)
    repeat' (first | omega | (with_reducible show (_ : Int) < _; dsimp only; omega) | (with_reducible show (_ : Nat) ≤ _; dsimp only; omega) | ((with_reducible show SrcOk _ _ _) <;> (first | exact srcOk_1 rfl | exact srcOk_L (fun _ => ⟨rfl, rfl⟩) | exact srcOk_E (fun _ => ⟨rfl, rfl⟩))) | ((conv => whnf) <;> (first | refine And.intro ?_ ?_ | (intro _h; first | contradiction | (try simp only [dd] at _h)) | (refine dt_go ?_) | exact rfl | exact True.intro | exact dkk | exact dks | (refine wrap_succ ?_; omega))))
  | true =>
    refine ret_of (nt := 4) (rvs := [.tmp 2]) Try.func87 rfl rfl rfl rfl (fun X => ?_)
    repeat' (first | omega | (with_reducible show (_ : Int) < _; dsimp only; omega) | (with_reducible show (_ : Nat) ≤ _; dsimp only; omega) | ((with_reducible show SrcOk _ _ _) <;> (first | exact srcOk_1 rfl | exact srcOk_L (fun _ => ⟨rfl, rfl⟩) | exact srcOk_E (fun _ => ⟨rfl, rfl⟩))) | ((conv => whnf) <;> (first | refine And.intro ?_ ?_ | (intro _h; first | contradiction | (try simp only [dd] at _h)) | (refine dt_go ?_) | exact rfl | exact True.intro | exact dkk | exact dks | (refine wrap_succ ?_; omega))))
theorem putLebS {n : Int} (h : 0 ≤ n ∧ n < 9223372036854775808) : Ret env.P 53 [.i .i64 n] (fun r => r = .s (baN (lebL n.toNat))) := (putLeb_specI h).toRet
def Module.ia (m : Module) (k : Nat) : ByteArray := baN (lebL m.imports.length ++ (m.imports.take k).flatMap Import.by)
def Module.ca (m : Module) (k : Nat) : ByteArray := baN (lebL m.cores.length ++ (m.cores.take k).flatMap Core.by)
def Module.da (m : Module) (k : Nat) : ByteArray := baN (lebL m.cores.length ++ (m.cores.take k).flatMap Core.cby)
theorem Module.ia0 (m : Module) : m.ia 0 = baN (lebL m.imports.length) := by simp [Module.ia]
theorem Module.ca0 (m : Module) : m.ca 0 = baN (lebL m.cores.length) := by simp [Module.ca]
theorem Module.da0 (m : Module) : m.da 0 = baN (lebL m.cores.length) := by simp [Module.da]
theorem Module.ia_last (m : Module) {k : Nat} (h : k = m.imports.length) : m.ia k = baN m.s2 := by subst h; simp [Module.ia, Module.s2]
theorem Module.ca_last (m : Module) {k : Nat} (h : k = m.cores.length) : m.ca k = baN m.s3 := by subst h; simp [Module.ca, Module.s3]
theorem Module.da_last (m : Module) {k : Nat} (h : k = m.cores.length) : m.da k = baN m.s4 := by subst h; simp [Module.da, Module.s4]
theorem Module.ia_next (m : Module) {k : Nat} (h : k < m.imports.length) : m.ia k ++ baN (putB (m.imports.getD k default).name) ++ baN (lebL (m.imports.getD k default).params.toNat) ++ baN [bitN (m.imports.getD k default).result] = m.ia (k + 1) := by
  unfold Module.ia
  rw [fm_take h, baN_app, baN_app, baN_app]
  simp only [Import.by, List.append_assoc]
theorem Module.ca_next (m : Module) {k : Nat} (h : k < m.cores.length) : m.ca k ++ baN (putB (m.cores.getD k default).name) ++ baN (lebL (m.cores.getD k default).params.toNat) ++ baN (lebL (m.cores.getD k default).locals.toNat) ++ baN [bitN (m.cores.getD k default).result] = m.ca (k + 1) := by
  unfold Module.ca
  rw [fm_take h, baN_app, baN_app, baN_app, baN_app]
  simp only [Core.by, List.append_assoc]
theorem slebL_all : ∀ (k : Nat) (n : Int), -(64 * 128 ^ k) ≤ n ∧ n < 64 * 128 ^ k → ∀ x ∈ slebL n, x < 256
  | 0, n, h, x, hx => by
    rw [slebL_small (by omega)] at hx
    simp at hx
    omega
  | k + 1, n, h, x, hx => by
    by_cases hs : -64 ≤ n ∧ n ≤ 63
    · rw [slebL_small hs] at hx
      simp at hx
      omega
    · rw [slebL_big hs] at hx
      rcases List.mem_cons.1 hx with rfl | hx
      · omega
      · refine slebL_all k (n / 128) ?_ x hx
        have e : (128 : Int) ^ (k + 1) = 128 ^ k * 128 := Int.pow_succ ..
        rw [e] at h
        generalize (128 : Int) ^ k = q at h
        omega
theorem Ins.by_all (i : Ins) : ∀ x ∈ i.by, x < 256 := by
  intro x hx
  unfold Ins.by at hx
  split at hx
  · rename_i hg
    have ho := i.good_op hg
    rcases List.mem_cons.1 hx with rfl | hx
    · omega
    · split at hx
      · rename_i h1
        have hr := i.good_1 hg h1
        refine slebL_all 9 i.a ?_ x hx
        have : (128 : Int) ^ 9 = 9223372036854775808 := by decide
        obtain ⟨h1, h2⟩ := hr
        omega
      · split at hx
        · exact lebL_lt _ x hx
        · cases hx
  · cases hx
theorem bodyN_all (l : List Ins) : ∀ x ∈ bodyN l, x < 256 := by
  intro x hx
  unfold bodyN at hx
  rcases List.mem_append.1 hx with h | h
  · exact lebL_lt _ x h
  · obtain ⟨i, _, hi⟩ := List.mem_flatMap.1 h
    exact i.by_all x hi
theorem Module.da_next (m : Module) {k : Nat} (h : k < m.cores.length) : m.da k ++ baN (putB (baN (bodyN (m.cores.getD k default).code))) = m.da (k + 1) := by
  unfold Module.da
  rw [fm_take h, baN_app, putB_N (bodyN_all _), List.append_assoc]
  rfl
theorem Module.ia_size {m : Module} (h : m.good) (k : Nat) : (m.ia k).size ≤ 1000000000 := by
  have h1 := fm_len (f := Import.by) (k := 43) (l := m.imports.take k) fun x hx => Import.by_len (m.im_good h x (List.mem_of_mem_take hx))
  have := h.li
  rw [List.length_take] at h1
  have := lb_tiny (n := m.imports.length) (by omega)
  unfold Module.ia
  rw [baN_size, List.length_append]
  omega
theorem Module.ca_size {m : Module} (h : m.good) (k : Nat) : (m.ca k).size ≤ 1000000000 := by
  have h1 := fm_len (f := Core.by) (k := 44) (l := m.cores.take k) fun x hx => Core.by_len (m.co_good h x (List.mem_of_mem_take hx))
  have := h.lc
  rw [List.length_take] at h1
  have := lb_tiny (n := m.cores.length) (by omega)
  unfold Module.ca
  rw [baN_size, List.length_append]
  omega
theorem Module.da_size {m : Module} (h : m.good) (k : Nat) : (m.da k).size ≤ 1000000000 := by
  have h1 := fm_len (f := Core.cby) (k := 1324) (l := m.cores.take k) fun x hx => Core.cby_len (m.co_good h x (List.mem_of_mem_take hx)).2
  have := h.lc
  rw [List.length_take] at h1
  have := lb_tiny (n := m.cores.length) (by omega)
  unfold Module.da
  rw [baN_size, List.length_append]
  omega
def Module.secs (m : Module) : List Section := [⟨1, ByteArray.empty, baN m.s1⟩, ⟨2, ByteArray.empty, baN m.s2⟩, ⟨3, ByteArray.empty, baN m.s3⟩, ⟨4, ByteArray.empty, baN m.s4⟩]
set_option maxRecDepth 8000 in
set_option maxHeartbeats 4000000 in
theorem sectionsM_spec (m : Module) (h : m.good) : RetM env.P 77 [] [.agg m.cs] (fun r H => r = .row 0 4 ∧ H = [some (rowL 3 Section.cs m.secs)]) := by
  have hI : ∀ k, k < m.imports.length → (m.imports.getD k default).good := fun k hk => (h.im.h k hk).1
  have hC : ∀ k, k < m.cores.length → (m.cores.getD k default).good := fun k hk => (h.co.h k hk).1
  have li := h.li
  have lc := h.lc
  have hp := h.pages
  have h1 := m.ia_size h
  have h2 := m.ca_size h
  have h3 := m.da_size h
  have hB : ∀ k, k < m.cores.length → Ret env.P 29 [slL 2 Ins.cs (m.cores.getD k default).code] (fun r => r = .s (baN (bodyN (m.cores.getD k default).code))) := fun k hk => (bodyM_spec _ (hC k hk).2.hc (hC k hk).2.hi).toRet
  have hbs : ∀ k, k < m.cores.length → (baN (bodyN (m.cores.getD k default).code)).size ≤ 100000000 := fun k hk => by
    rw [baN_size]
    have := bodyN_len (hC k hk).2.hc
    omega
  have hni : ∀ k, k < m.imports.length → (m.imports.getD k default).name.size ≤ 100000000 := fun k hk => by have := (hI k hk).1.hi; omega
  have hnc : ∀ k, k < m.cores.length → (m.cores.getD k default).name.size ≤ 100000000 := fun k hk => by have := (hC k hk).1.hi; omega
  have hip : ∀ k, k < m.imports.length → 0 ≤ (m.imports.getD k default).params ∧ (m.imports.getD k default).params < 9223372036854775808 := fun k hk => by have := (hI k hk).2; omega
  have hcp : ∀ k, k < m.cores.length → 0 ≤ (m.cores.getD k default).params ∧ (m.cores.getD k default).params < 9223372036854775808 := fun k hk => by have := (hC k hk).2.hp; omega
  have hcl : ∀ k, k < m.cores.length → 0 ≤ (m.cores.getD k default).locals ∧ (m.cores.getD k default).locals < 9223372036854775808 := fun k hk => by have := (hC k hk).2.hl; omega
  have hq : ∀ n : Int, 0 ≤ n ∧ n < 9223372036854775808 → (baN (lebL n.toNat)).size ≤ 1000000000 := fun n hn => lb_size (by omega)
  have hlI : Ret env.P 53 [.i .i64 (m.imports.length : Int)] (fun r => r = .s (m.ia 0)) := by rw [m.ia0]; exact (putLeb_spec _ (by omega)).toRet
  have hlC : Ret env.P 53 [.i .i64 (m.cores.length : Int)] (fun r => r = .s (baN (lebL m.cores.length))) := (putLeb_spec _ (by omega)).toRet
  refine ret_ofM (nt := 93) (rvs := [.tmp 2]) Try.func77 rfl rfl rfl rfl (fun X hX => ?_)
  repeat' (first | omega | (with_reducible show (_ : Int) < _; dsimp only; omega) | (with_reducible show (_ : Nat) ≤ _; dsimp only; omega) | ((with_reducible show SrcOk _ _ _) <;> (first | exact srcOk_1 rfl | exact srcOk_L (fun _ => ⟨rfl, rfl⟩) | exact srcOk_E (fun _ => ⟨rfl, rfl⟩))) | ((conv => whnf) <;> (first | exact m.ia_next (by omega) | exact m.ca_next (by omega) | exact m.da_next (by omega) | exact m.ca0.symm | exact m.da0.symm | refine dt_goC [] ?_ | refine loopAt 4 m.imports.length (fun k => [(4, .i .i64 k), (3, .s (m.ia k))]) (fun k => []) (fun _ => True) rfl ⟨trivial, ?_⟩ | refine loopAt 8 m.cores.length (fun k => [(8, .i .i64 k), (6, .s (m.ca k)), (7, .s (m.da k))]) (fun k => []) (fun _ => True) rfl ⟨trivial, ?_⟩ | exact le_of2 (h1 _) (putB_size (hni _ (by omega))) | exact le_of3 (h1 _) (putB_size (hni _ (by omega))) (hq _ (hip _ (by omega))) | exact le_of4 (h1 _) (putB_size (hni _ (by omega))) (hq _ (hip _ (by omega))) (bit_size _) | exact le_of2 (h2 _) (putB_size (hnc _ (by omega))) | exact le_of3 (h2 _) (putB_size (hnc _ (by omega))) (hq _ (hcp _ (by omega))) | exact le_of4 (h2 _) (putB_size (hnc _ (by omega))) (hq _ (hcp _ (by omega))) (hq _ (hcl _ (by omega))) | exact le_of5 (h2 _) (putB_size (hnc _ (by omega))) (hq _ (hcp _ (by omega))) (hq _ (hcl _ (by omega))) (bit_size _) | exact le_of2 (h3 _) (putB_size (hbs _ (by omega))) | refine And.intro ?_ ?_ | (intro _h; first | contradiction | (try simp only [dd] at _h)) | (refine dt_go ?_) | exact rfl | exact True.intro | exact dkk | exact dks | ((first | refine .inl ⟨_, hlI, ?_⟩ | refine ⟨_, hlI, ?_⟩); (try rintro _ rfl)) | ((first | refine .inl ⟨_, hlC, ?_⟩ | refine ⟨_, hlC, ?_⟩); (try rintro _ rfl)) | ((first | refine .inl ⟨_, putBytes_spec _ (hni _ (by omega)), ?_⟩ | refine ⟨_, putBytes_spec _ (hni _ (by omega)), ?_⟩); (try rintro _ rfl)) | ((first | refine .inl ⟨_, putBytes_spec _ (hnc _ (by omega)), ?_⟩ | refine ⟨_, putBytes_spec _ (hnc _ (by omega)), ?_⟩); (try rintro _ rfl)) | ((first | refine .inl ⟨_, putBytes_spec _ (hbs _ (by omega)), ?_⟩ | refine ⟨_, putBytes_spec _ (hbs _ (by omega)), ?_⟩); (try rintro _ rfl)) | ((first | refine .inl ⟨_, putLebS (hip _ (by omega)), ?_⟩ | refine ⟨_, putLebS (hip _ (by omega)), ?_⟩); (try rintro _ rfl)) | ((first | refine .inl ⟨_, putLebS (hcp _ (by omega)), ?_⟩ | refine ⟨_, putLebS (hcp _ (by omega)), ?_⟩); (try rintro _ rfl)) | ((first | refine .inl ⟨_, putLebS (hcl _ (by omega)), ?_⟩ | refine ⟨_, putLebS (hcl _ (by omega)), ?_⟩); (try rintro _ rfl)) | ((first | refine .inl ⟨_, putLebS (n := m.pages) (by omega), ?_⟩ | refine ⟨_, putLebS (n := m.pages) (by omega), ?_⟩); (try rintro _ rfl)) | ((first | refine .inl ⟨_, l17Bit_ok _, ?_⟩ | refine ⟨_, l17Bit_ok _, ?_⟩); (try rintro _ rfl)) | ((first | refine .inl ⟨_, hB _ (by omega), ?_⟩ | refine ⟨_, hB _ (by omega), ?_⟩); (try rintro _ rfl)) | (refine wrap_succ ?_; omega))))
  all_goals (conv => whnf)
  rename_i k _ _ _ k' _ _
  have e1 := m.ia_last (k := k) (by omega)
  have e2 := m.ca_last (k := k') (by omega)
  have e3 := m.da_last (k := k') (by omega)
  refine endM_turn (turn_eq (id := 1) (x := rowL 3 Section.cs m.secs) rfl rfl rfl rfl rfl (fun i j hi hj => ?_)) ?_
  · have hi4 : i < 4 := hi
    have hj3 : j < 3 := hj
    rcases (show i = 0 ∨ i = 1 ∨ i = 2 ∨ i = 3 by omega) with rfl | rfl | rfl | rfl <;> rcases (show j = 0 ∨ j = 1 ∨ j = 2 by omega) with rfl | rfl | rfl <;> first
      | exact .refl _
      | (show OwEq (.s (m.ia k)) (.s (baN m.s2)); rw [e1]; exact .refl _)
      | (show OwEq (.s (m.ca k')) (.s (baN m.s3)); rw [e2]; exact .refl _)
      | (show OwEq (.s (m.da k')) (.s (baN m.s4)); rw [e3]; exact .refl _)
  exact endM_pick [1] [some (rowL 3 Section.cs m.secs)] (.row 0 4) (view_of rfl (.cons rfl (.self (rowPl_L fun _ => rfl)) .nil)) rfl rfl (fun k hk => by rw [hX] at hk; exact absurd hk (Nat.not_lt_zero _)) ⟨rfl, rfl⟩
def Section.by (x : Section) : List Nat := if x.id = 0 then 0 :: putN (putB x.name ++ bsN x.bytes) else x.id.toNat :: putB x.bytes
structure Section.fit (x : Section) : Prop where
  id : 0 ≤ x.id ∧ x.id ≤ 255
  nm : x.name.size ≤ 10000000
  by_ : x.bytes.size ≤ 10000000
theorem fixN {n : Int} (h : 0 ≤ n ∧ n ≤ 255) : fixL n 1 = [n.toNat] := by
  show [(n / 1 % 256).toNat] = [n.toNat]
  congr 1
  omega
theorem fixN_spec {n : Int} (h : 0 ≤ n ∧ n ≤ 255) : Ret env.P 70 [.i .i64 n, .i .i64 1] (fun r => r = .s (baN [n.toNat])) := by
  have := putFix_spec n 1 ⟨by omega, by omega⟩ (by omega)
  rw [fixN h] at this
  exact this.toRet
theorem putB_all (s : ByteArray) : ∀ x ∈ putB s, x < 256 := by
  intro x hx
  unfold putB at hx
  rcases List.mem_append.1 hx with h | h
  · exact lebL_lt _ x h
  · exact bsN_lt x h
theorem Section.by0 {x : Section} (h : x.id = 0) : baN [x.id.toNat] ++ baN (putB (baN (putB x.name) ++ x.bytes)) = baN x.by := by
  unfold Section.by
  rw [if_pos h, h, baN_app, baN_appS, putB_N (fun y hy => by
    rcases List.mem_append.1 hy with h | h
    · exact putB_all _ y h
    · exact bsN_lt y h)]
  rfl
theorem Section.byN {x : Section} (h : ¬ x.id = 0) : baN [x.id.toNat] ++ baN (putB x.bytes) = baN x.by := by
  unfold Section.by
  rw [if_neg h, baN_app]
  rfl
theorem Section.in_size {x : Section} (h : x.fit) : (baN (putB x.name) ++ x.bytes).size ≤ 100000000 := by
  have := h.nm
  have := h.by_
  rw [size_app, putB_baN, size_app, baN_size]
  have := lb9 (n := x.name.size) (by omega)
  omega
set_option maxRecDepth 8000 in
set_option maxHeartbeats 1000000 in
theorem l17One_ok (x : Section) (h : x.fit) : Ret env.P 81 [.agg x.cs] (fun r => r = .s (baN x.by)) := by
  have hn := h.nm
  have hb := h.by_
  have hf := fixN_spec h.id
  have hi := Section.in_size h
  by_cases h0 : x.id = 0
  · rw [← Section.by0 h0]
    refine ret_of (nt := 24) (rvs := [.tmp 2]) Try.func81 rfl rfl rfl rfl (fun X => ?_)
    repeat' (first | omega | (with_reducible show (_ : Int) < _; dsimp only; omega) | (with_reducible show (_ : Nat) ≤ _; dsimp only; omega) | ((with_reducible show SrcOk _ _ _) <;> (first | exact srcOk_1 rfl | exact srcOk_L (fun _ => ⟨rfl, rfl⟩) | exact srcOk_E (fun _ => ⟨rfl, rfl⟩))) | ((conv => whnf) <;> (first | refine dt_goC [] ?_ | (exfalso; exact ‹¬ _› h0) | exact le_of2 (putB_size (by omega)) (by omega) | exact le_of2 (one_size _) (putB_size hi) | refine And.intro ?_ ?_ | (intro _h; first | contradiction | (try simp only [dd] at _h)) | (refine dt_go ?_) | exact rfl | exact True.intro | exact dkk | exact dks | ((first | refine .inl ⟨_, hf, ?_⟩ | refine ⟨_, hf, ?_⟩); (try rintro _ rfl)) | ((first | refine .inl ⟨_, putBytes_spec x.name (by omega), ?_⟩ | refine ⟨_, putBytes_spec x.name (by omega), ?_⟩); (try rintro _ rfl)) | ((first | refine .inl ⟨_, putBytes_spec _ hi, ?_⟩ | refine ⟨_, putBytes_spec _ hi, ?_⟩); (try rintro _ rfl)) | (refine wrap_succ ?_; omega))))
  · rw [← Section.byN h0]
    refine ret_of (nt := 24) (rvs := [.tmp 2]) Try.func81 rfl rfl rfl rfl (fun X => ?_)
    repeat' (first | omega | (with_reducible show (_ : Int) < _; dsimp only; omega) | (with_reducible show (_ : Nat) ≤ _; dsimp only; omega) | ((with_reducible show SrcOk _ _ _) <;> (first | exact srcOk_1 rfl | exact srcOk_L (fun _ => ⟨rfl, rfl⟩) | exact srcOk_E (fun _ => ⟨rfl, rfl⟩))) | ((conv => whnf) <;> (first | refine dt_goC [] ?_ | (exfalso; exact h0 ‹_›) | exact le_of2 (one_size _) (putB_size (by omega)) | refine And.intro ?_ ?_ | (intro _h; first | contradiction | (try simp only [dd] at _h)) | (refine dt_go ?_) | exact rfl | exact True.intro | exact dkk | exact dks | ((first | refine .inl ⟨_, hf, ?_⟩ | refine ⟨_, hf, ?_⟩); (try rintro _ rfl)) | ((first | refine .inl ⟨_, putBytes_spec x.bytes (by omega), ?_⟩ | refine ⟨_, putBytes_spec x.bytes (by omega), ?_⟩); (try rintro _ rfl)) | (refine wrap_succ ?_; omega))))
end
end Go.Proofs.Ytdeledeopippfaa
