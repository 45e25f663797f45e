/- Texts for VSectionsP. -/
import Derived.Shelf.Strings.BuilderK
import Derived.Test.YtdeledeopippfaaProg
import Derived.Test.YtdeledeopippfaaVx32
namespace Go.Proofs.Ytdeledeopippfaa
open Go Go.RowKit
set_option linter.unusedVariables false
set_option linter.unusedSimpArgs false
set_option maxRecDepth 8000
section
attribute [local irreducible] IntKind.wrap
instance : Shr 0 Section.cs Section.cs := shr_plain fun _ => rfl
def allN (l : List Section) (k : Nat) : List Nat := headN ++ (l.take k).flatMap Section.by
structure AlI (l : List Section) (y : StS) : Prop where
  hk : y.k ≤ l.length
  hb : y.b = baN (allN l y.k)
structure Fit (l : List Section) : Prop where
  len : l.length ≤ 100
  h : ∀ k, k < l.length → (l.getD k default).fit
theorem Section.by_len {x : Section} (h : x.fit) : x.by.length ≤ 100000000 := by
  have := h.nm
  have := h.by_
  have h1 := lb9 (n := x.name.size) (by omega)
  have h2 := lb9 (n := x.bytes.size) (by omega)
  unfold Section.by
  split
  · have h3 : (putB x.name ++ bsN x.bytes).length ≤ 10000009 + 10000000 := by
      unfold putB
      rw [List.length_append, List.length_append, bsN_len, bsN_len]
      omega
    have h4 := lb9 (n := (putB x.name ++ bsN x.bytes).length) (by omega)
    unfold putN
    rw [List.length_cons, List.length_append]
    omega
  · unfold putB
    rw [List.length_cons, List.length_append, bsN_len]
    omega
theorem Fit.mem {l : List Section} (h : Fit l) : ∀ x ∈ l, x.fit := fun x hx => by
  obtain ⟨j, hj, rfl⟩ := mem_getD hx
  exact h.h j hj
theorem AlI.zero (l : List Section) : AlI l ⟨0, baN headN⟩ := ⟨Nat.zero_le _, by simp [allN]⟩
theorem AlI.next {l : List Section} {y : StS} (h : AlI l y) (hk : y.k < l.length) : AlI l ⟨y.k + 1, y.b ++ baN (l.getD y.k default).by⟩ := ⟨hk, by
  dsimp only
  rw [h.hb, baN_app]
  unfold allN
  rw [fm_take hk, List.append_assoc]⟩
theorem AlI.size {l : List Section} {y : StS} (h : AlI l y) (hf : Fit l) : y.b.size ≤ 10000000100 := by
  have h1 := fm_len (f := Section.by) (k := 100000000) (l := l.take y.k) fun x hx => Section.by_len (hf.mem x (List.mem_of_mem_take hx))
  have := hf.len
  rw [List.length_take] at h1
  rw [h.hb, baN_size]
  unfold allN
  rw [List.length_append]
  show 5 + _ ≤ _
  omega
theorem AlI.last {l : List Section} {y : StS} (h : AlI l y) (hk : ¬ (y.k : Int) < (l.length : Int)) : y.b = baN (allN l l.length) := by
  have := h.hk
  rw [h.hb, show y.k = l.length by omega]
theorem al_cap {a b : Nat} (h : a ≤ 10000000100) (h' : b ≤ 100000000) : (a + b) * 1 ≤ 140737488355328 := by omega
theorem al_len {a b : Nat} (h : a ≤ 10000000100) (h' : b ≤ 100000000) : a + b ≤ 9223372036854775807 := by omega
theorem secby_size {l : List Section} (hf : Fit l) {k : Nat} (hk : k < l.length) : (baN (l.getD k default).by).size ≤ 100000000 := by
  rw [baN_size]
  exact Section.by_len (hf.h k hk)
set_option maxHeartbeats 4000000 in
theorem allM_spec (l : List Section) (hf : Fit l) : RetM env.P 64 [] [slL 3 Section.cs l] (fun r H => r = .s (baN (allN l l.length)) ∧ H = []) := by
  have hl := hf.len
  have hO : ∀ k, k < l.length → Ret env.P 81 [.agg (l.getD k default).cs] (fun r => r = .s (baN (l.getD k default).by)) := fun k hk => l17One_ok _ (hf.h k hk)
  refine ret_ofPM (nt := 22) (rvs := [.tmp 2]) Try.func64 rfl rfl rfl rfl (fun X hX => ?_)
  refine pw_cut 2 (fun _ : Unit => True) (fun _ => [(0, slL 3 Section.cs l), (3, .row 1 (baN headN).size)]) (fun _ => [none, some ⟨1, (baN headN).size, strE (baN headN), .arr⟩]) ?_ (fun _ _ => ?_)
  · repeat' (first | omega | (with_reducible show (_ : Int) < _; dsimp only; omega) | (with_reducible show (_ : Nat) ≤ _; dsimp only; omega) | ((with_reducible show SrcOk _ _ _) <;> (first | exact srcOk_1 rfl | exact srcOk_L (fun _ => ⟨rfl, rfl⟩) | exact srcOk_E (fun _ => ⟨rfl, rfl⟩))) | ((conv => whnf) <;> (first | refine And.intro ?_ ?_ | (intro _h; first | contradiction | (try simp only [dd] at _h)) | (refine dt_go ?_) | exact rfl | exact True.intro | exact dkk | exact dks | (refine wrap_succ ?_; omega))))
    conv => whnf
    refine cut_turn (turn_eq (id := 1) (x := ⟨1, (baN headN).size, strE (baN headN), .arr⟩) rfl rfl rfl rfl rfl (fun i j hi hj => ?_)) ?_
    · have hi5 : i < 5 := hi
      obtain rfl : j = 0 := Nat.lt_one_iff.1 hj
      rcases (show i = 0 ∨ i = 1 ∨ i = 2 ∨ i = 3 ∨ i = 4 by omega) with rfl | rfl | rfl | rfl | rfl <;> exact .refl _
    exact cut_go () trivial (by repeat' (first | exact trivial | refine And.intro rfl ?_)) (by repeat' (first | exact trivial | refine And.intro (.inl rfl) ?_ | refine And.intro (.inr rfl) ?_ | refine And.intro rfl ?_))
  refine wpc_ok _ _ _ _ ?_
  (try dsimp only)
  conv => whnf
  refine loopFT (fun y : StS => [(4, .i .i64 (y.k : Int)), (3, .row 1 y.b.size)]) (fun y => [none, some (.arr ⟨1, y.b.size, strE y.b, .arr⟩)]) (fun y => AlI l y) (fun y => l.length - y.k) ⟨0, baN headN⟩ ⟨.zero l, ?_⟩
  repeat' (first | omega | (with_reducible show (_ : Int) < _; dsimp only; omega) | (with_reducible show (_ : Nat) ≤ _; dsimp only; omega) | ((with_reducible show SrcOk _ _ _) <;> (first | exact srcOk_1 rfl | exact srcOk_L (fun _ => ⟨rfl, rfl⟩) | exact srcOk_E (fun _ => ⟨rfl, rfl⟩))) | ((conv => whnf) <;> (first | exact arr_str rfl | exact al_cap (‹AlI l _›.size hf) (secby_size hf (by omega)) | exact al_len (‹AlI l _›.size hf) (secby_size hf (by omega)) | exact bytes_strE _ | refine And.intro ?_ ?_ | (intro _h; first | contradiction | (try simp only [dd] at _h)) | (refine dt_go ?_) | exact rfl | exact True.intro | exact dkk | exact dks | ((first | refine .inl ⟨_, hO _ (by omega), ?_⟩ | refine ⟨_, hO _ (by omega), ?_⟩); (try rintro _ rfl)) | (refine wrap_succ ?_; omega))))
  · rename_i y hy
    conv => whnf
    refine roundET_turn (turn_eq (id := 2) (x := ⟨1, (y.b ++ baN (l.getD y.k default).by).size, strE (y.b ++ baN (l.getD y.k default).by), .arr⟩) rfl rfl (size_app _ _) rfl rfl (strE_appO _ _)) ?_
    refine roundET_end ?_
    refine ⟨⟨y.k + 1, y.b ++ baN (l.getD y.k default).by⟩, [0, 2], hy.next (by omega), ?_, ?_⟩
    · dsimp only; omega
    repeat' (first | omega | (with_reducible show (_ : Int) < _; dsimp only; omega) | (with_reducible show (_ : Nat) ≤ _; dsimp only; omega) | ((with_reducible show SrcOk _ _ _) <;> (first | exact srcOk_1 rfl | exact srcOk_L (fun _ => ⟨rfl, rfl⟩) | exact srcOk_E (fun _ => ⟨rfl, rfl⟩))) | ((conv => whnf) <;> (first | exact arr_str rfl | exact (size_app _ _).symm | (have := ‹AlI l _›.hk; exact wrap_in (by omega) (by omega)) | exact lbz_rho hX ‹_› | refine And.intro ?_ ?_ | (intro _h; first | contradiction | (try simp only [dd] at _h)) | (refine dt_go ?_) | exact rfl | exact True.intro | exact dkk | exact dks | (refine wrap_succ ?_; omega))))
  · rename_i y hy
    conv => whnf
    exact endM_pick [] [] (.s _) (view_of rfl .nil) rfl rfl (fun k hk => by rw [hX] at hk; exact absurd hk (Nat.not_lt_zero _)) ⟨congrArg AV.s ((bytesOf_strE _).trans (hy.last _h)), rfl⟩
theorem Module.secs_fit {m : Module} (h : m.good) : Fit m.secs := by
  have h1 := m.s1_len h
  have h2 := m.s2_len h
  have h3 := m.s3_len h
  have h4 := m.s4_len h
  have e0 : ByteArray.empty.size = 0 := rfl
  refine ⟨by show 4 ≤ 100; omega, fun k hk => ?_⟩
  have hk4 : k < 4 := hk
  rcases (show k = 0 ∨ k = 1 ∨ k = 2 ∨ k = 3 by omega) with rfl | rfl | rfl | rfl
  · exact ⟨⟨by show (0 : Int) ≤ 1; decide, by show (1 : Int) ≤ 255; decide⟩, by show 0 ≤ _; omega, by show (baN m.s1).size ≤ _; rw [baN_size]; omega⟩
  · exact ⟨⟨by show (0 : Int) ≤ 2; decide, by show (2 : Int) ≤ 255; decide⟩, by show 0 ≤ _; omega, by show (baN m.s2).size ≤ _; rw [baN_size]; omega⟩
  · exact ⟨⟨by show (0 : Int) ≤ 3; decide, by show (3 : Int) ≤ 255; decide⟩, by show 0 ≤ _; omega, by show (baN m.s3).size ≤ _; rw [baN_size]; omega⟩
  · exact ⟨⟨by show (0 : Int) ≤ 4; decide, by show (4 : Int) ≤ 255; decide⟩, by show 0 ≤ _; omega, by show (baN m.s4).size ≤ _; rw [baN_size]; omega⟩
theorem s_all {l : List Nat} {α : Type} {k : List α} {f : α → List Nat} (h : l = lebL k.length ++ k.flatMap f) (hf : ∀ a, ∀ x ∈ f a, x < 256) : ∀ x ∈ l, x < 256 := by
  subst h
  intro x hx
  rcases List.mem_append.1 hx with h | h
  · exact lebL_lt _ x h
  · obtain ⟨a, _, ha⟩ := List.mem_flatMap.1 h
    exact hf a x ha
theorem bit_all (b : Bool) : ∀ x ∈ [bitN b], x < 256 := by
  intro x hx
  cases b <;> simp [bitN] at hx <;> omega
theorem Import.by_all (a : Import) : ∀ x ∈ a.by, x < 256 := by
  intro x hx
  unfold Import.by at hx
  rcases List.mem_append.1 hx with h | h
  · rcases List.mem_append.1 h with h | h
    · exact putB_all _ x h
    · exact lebL_lt _ x h
  · exact bit_all _ x h
theorem Core.by_all (a : Core) : ∀ x ∈ a.by, x < 256 := by
  intro x hx
  unfold Core.by at hx
  rcases List.mem_append.1 hx with h | h
  · rcases List.mem_append.1 h with h | h
    · rcases List.mem_append.1 h with h | h
      · exact putB_all _ x h
      · exact lebL_lt _ x h
    · exact lebL_lt _ x h
  · exact bit_all _ x h
theorem Core.cby_all (a : Core) : ∀ x ∈ a.cby, x < 256 := by
  intro x hx
  unfold Core.cby putN at hx
  rcases List.mem_append.1 hx with h | h
  · exact lebL_lt _ x h
  · exact bodyN_all _ x h
theorem sec_one {k : Int} {l : List Nat} (hk : ¬ k = 0) (h : ∀ x ∈ l, x < 256) : Section.by ⟨k, ByteArray.empty, baN l⟩ = secN k.toNat l := by
  unfold Section.by secN
  rw [if_neg hk, putB_N h]
theorem Module.by_secs (m : Module) : allN m.secs 4 = m.by := by
  unfold allN Module.secs Module.by
  simp only [List.take_succ_cons, List.take_zero, List.flatMap_cons, List.flatMap_nil, List.append_nil]
  rw [sec_one (l := m.s1) (by decide) (fun x hx => lebL_lt _ x hx), sec_one (by decide) (s_all (l := m.s2) rfl Import.by_all), sec_one (by decide) (s_all (l := m.s3) rfl Core.by_all), sec_one (by decide) (s_all (l := m.s4) rfl Core.cby_all)]
  simp only [List.append_assoc]
  rfl
noncomputable def Module.out (m : Module) : ByteArray := bif pb m.good then baN m.by else ByteArray.empty
set_option maxHeartbeats 4000000 in
theorem moduleM_spec (m : Module) (h : m.ok) (hg : m.good) : RetM env.P 60 [] [.agg m.cs] (fun r H => r = .s (baN m.by) ∧ H = []) := by
  have hS := shapeS_ok m h
  rw [pb_t.mpr hg] at hS
  have hA := allM_spec m.secs (m.secs_fit hg)
  rw [show m.secs.length = 4 from rfl, m.by_secs] at hA
  refine ret_ofM (nt := 9) (rvs := [.tmp 2]) Try.func60 rfl rfl rfl rfl (fun X hX => ?_)
  repeat' (first | omega | (with_reducible show (_ : Int) < _; dsimp only; omega) | (with_reducible show (_ : Nat) ≤ _; dsimp only; omega) | ((with_reducible show SrcOk _ _ _) <;> (first | exact srcOk_1 rfl | exact srcOk_L (fun _ => ⟨rfl, rfl⟩) | exact srcOk_E (fun _ => ⟨rfl, rfl⟩))) | ((conv => whnf) <;> (first | refine And.intro ?_ ?_ | (intro _h; first | contradiction | (try simp only [dd] at _h)) | (refine dt_go ?_) | exact rfl | exact True.intro | exact dkk | exact dks | ((first | refine .inl ⟨_, hS, ?_⟩ | refine ⟨_, hS, ?_⟩); (try rintro _ rfl)) | (refine .inr (.inl (.inl ⟨[], _, _, _, sectionsM_spec m hg, viewA, ⟨rfl, rfl⟩, ?_⟩)); (rintro _ _ ⟨rfl, rfl⟩) <;> (refine ⟨rfl, _, lokA, ?_⟩)) | (refine .inr (.inl (.inr (.inl ⟨_, RetM.wka (hA), ?_⟩))); rintro _ _ ⟨rfl, rfl⟩; refine ⟨⟨rfl, nssA⟩, _, lokA, ?_⟩) | (refine wrap_succ ?_; omega))))
  conv => whnf
  exact endM_pick [] [] (.s (baN m.by)) (view_of rfl .nil) rfl rfl (fun k hk => by rw [hX] at hk; exact absurd hk (Nat.not_lt_zero _)) ⟨rfl, rfl⟩
end
section
attribute [local irreducible] IntKind.wrap gbB secG okSec
noncomputable def secY (s : ByteArray) : Section := bif pb (secF s) then secX s else default
noncomputable def secM (s : ByteArray) : Int := bif pb (secF s) then 1 + (secG s).2.1 else 0
theorem secY_t {s : ByteArray} (h : secF s) : secY s = secX s := by unfold secY; rw [pb_t.mpr h]; rfl
theorem secM_t {s : ByteArray} (h : secF s) : secM s = 1 + (secG s).2.1 := by unfold secM; rw [pb_t.mpr h]; rfl
theorem l17Read_ok (s : ByteArray) (hs : s.size ≤ 1048576) (h0 : 1 ≤ s.size) : Ret env.P 62 [.s s] (fun r => r = secV (secY s) (secM s) (pb (secF s))) := by
  obtain ⟨q1, q2, q3⟩ := secG_rng h0
  obtain ⟨p1, p2, p3⟩ := gbB_rng (secG s).1
  have hG := getBytes_spec (s.extract 1 s.size) (by rw [ByteArray.size_extract]; omega)
  have hH := getBytes_spec (secG s).1 (by omega)
  refine (l17Read_w s hs h0 (secG s).1 (secG s).2.1 (secG s).2.2 (by unfold secG; exact hG) q1 (by omega) (gbB (secG s).1).1 (gbB (secG s).1).2.1 (gbB (secG s).1).2.2 hH p1 p2).mono fun r hr => hr.trans ?_
  have e : ((secG s).2.2 = true ∧ (secB s = 0 → (gbB (secG s).1).2.2 = true) ∧ okSec (secK s (secG s).1 (gbB (secG s).1).1 (gbB (secG s).1).2.1)) ↔ secF s := ⟨fun q => ⟨q.1, q.2.1, q.2.2⟩, fun q => ⟨q.g, q.h, q.ok⟩⟩
  rw [pb_congr e]
  unfold secY secM
  cases pb (secF s) <;> rfl
def hdrB : ByteArray := ⟨#[0, 99, 111, 114, 1]⟩
open Classical in
noncomputable def secAll (s : ByteArray) : Option (List Section) := if 5 ≤ s.size ∧ s.extract 0 5 = hdrB then secs 20 (s.extract 5 s.size) [] else none
structure SoI (s : ByteArray) (x : List Section × Int) : Prop where
  lo : 5 ≤ x.2
  hi : x.2 ≤ s.size
  n : x.1.length ≤ 20
  h : secs (20 - x.1.length) (s.extract x.2.toNat s.size) x.1 = secAll s
theorem so0 {s : ByteArray} (h5 : 5 ≤ s.size) (h : s.extract 0 5 = hdrB) : SoI s ([], 5) := ⟨Int.le_refl _, by show (5 : Int) ≤ s.size; omega, Nat.zero_le _, (if_pos ⟨h5, h⟩).symm⟩
theorem secs_end {n : Nat} {s : ByteArray} {acc : List Section} (h : s.size = 0) : secs n s acc = some acc := by
  cases n <;> (unfold secs; exact if_pos h)
theorem secs_no {n : Nat} {s : ByteArray} {acc : List Section} (h : ¬ s.size = 0) (q : ¬ secF s ∨ n = 0) : secs n s acc = none := by
  cases n with
  | zero => unfold secs; exact if_neg h
  | succ n =>
    unfold secs
    rw [if_neg h, if_neg (q.resolve_right (by omega))]
theorem secs_step {n : Nat} {s : ByteArray} {acc : List Section} (h : ¬ s.size = 0) (q : secF s) : secs (n + 1) s acc = secs n (secT s) (acc ++ [secX s]) := by
  rw [secs, if_neg h, if_pos q]
theorem ex_size {s : ByteArray} {a : Int} : (s.extract a.toNat s.size).size = s.size - a.toNat := by
  rw [ByteArray.size_extract]
  omega
theorem SoI.fin {s : ByteArray} {x : List Section × Int} (h : SoI s x) (e : ¬ x.2 < s.size) : secAll s = some x.1 := by
  rw [← h.h]
  exact secs_end (by rw [ex_size]; omega)
theorem SoI.bad {s : ByteArray} {x : List Section × Int} (h : SoI s x) (e : x.2 < s.size) (q : ¬ secF (s.extract x.2.toNat s.size) ∨ 20 ≤ x.1.length) : secAll s = none := by
  have := h.lo
  rw [← h.h]
  exact secs_no (by rw [ex_size]; omega) (q.imp_right (fun q => by omega))
theorem SoI.rng {s : ByteArray} {x : List Section × Int} (h : SoI s x) (e : x.2 < s.size) (q : secF (s.extract x.2.toNat s.size)) : 1 ≤ secM (s.extract x.2.toNat s.size) ∧ secM (s.extract x.2.toNat s.size) + x.2 ≤ s.size := by
  have := h.lo
  obtain ⟨q1, q2, q3⟩ := secG_rng (s := s.extract x.2.toNat s.size) (by rw [ex_size]; omega)
  rw [ex_size] at q2
  rw [secM_t q]
  omega
theorem ex_ex {s : ByteArray} {a b : Nat} (h : a ≤ s.size) : (s.extract a s.size).extract b (s.size - a) = s.extract (a + b) s.size := by
  rw [ByteArray.extract_extract]
  congr 1
  omega
theorem SoI.next {s : ByteArray} {x : List Section × Int} (hs : s.size ≤ 1048576) (h : SoI s x) (e : x.2 < s.size) (q : secF (s.extract x.2.toNat s.size)) (hn : ¬ 20 ≤ x.1.length) : SoI s (x.1 ++ [secY (s.extract x.2.toNat s.size)], IntKind.i64.wrap (x.2 + secM (s.extract x.2.toNat s.size))) := by
  obtain ⟨r1, r2⟩ := h.rng e q
  have hlo := h.lo
  have hw : IntKind.i64.wrap (x.2 + secM (s.extract x.2.toNat s.size)) = x.2 + secM (s.extract x.2.toNat s.size) := wr64 (by omega) (by omega)
  rw [hw]
  refine ⟨by show 5 ≤ x.2 + _; omega, by show x.2 + _ ≤ _; omega, by rw [List.length_append]; show x.1.length + 1 ≤ 20; omega, ?_⟩
  rw [← h.h]
  obtain ⟨k, hk⟩ : ∃ k, 20 - x.1.length = k + 1 := ⟨19 - x.1.length, by omega⟩
  rw [hk, secs_step (by rw [ex_size]; omega) q, secY_t q]
  have e1 : 20 - (x.1 ++ [secX (s.extract x.2.toNat s.size)]).length = k := by rw [List.length_append]; show 20 - (x.1.length + 1) = k; omega
  have e2 : secT (s.extract x.2.toNat s.size) = s.extract (x.2 + secM (s.extract x.2.toNat s.size)).toNat s.size := by
    unfold secT
    rw [ex_size, ex_ex (by omega), secM_t q]
    congr 1
    rw [secM_t q] at r1
    omega
  rw [e2]
  show secs (20 - (x.1 ++ [secX (s.extract x.2.toNat s.size)]).length) _ _ = _
  rw [e1]
theorem sec_hdr {s : ByteArray} (h : ¬ 5 ≤ s.size) : secAll s = none := if_neg fun q => h q.1
theorem sec_hdr' {s : ByteArray} (h : ¬ s.extract 0 5 = hdrB) : secAll s = none := if_neg fun q => h q.2
theorem SoI.dec {s : ByteArray} {x : List Section × Int} (hs : s.size ≤ 1048576) (h : SoI s x) (e : x.2 < s.size) (q : secF (s.extract x.2.toNat s.size)) : s.size - (IntKind.i64.wrap (x.2 + secM (s.extract x.2.toNat s.size))).toNat < s.size - x.2.toNat := by
  obtain ⟨r1, r2⟩ := h.rng e q
  have hlo := h.lo
  rw [wr64 (by omega) (by omega)]
  omega
theorem soi1k {s : ByteArray} {x : List Section × Int} (h : SoI s x) : x.1.length ≤ 1000 := Nat.le_trans h.n (by decide)
theorem soi0 {s : ByteArray} {x : List Section × Int} (h : SoI s x) : 0 ≤ x.2 := Int.le_trans (by decide) h.lo
noncomputable def soL (s : ByteArray) : List Section := if 30000 < s.size then [] else (secAll s).getD []
noncomputable def soC (s : ByteArray) : Int := if 30000 < s.size then 4 else match secAll s with
  | none => 18
  | some _ => 0
theorem so_4 {s : ByteArray} (h : 30000 < s.size) : soL s = [] ∧ soC s = 4 := ⟨if_pos h, if_pos h⟩
theorem so_18 {s : ByteArray} (h : ¬ 30000 < s.size) (e : secAll s = none) : soL s = [] ∧ soC s = 18 := by
  unfold soL soC
  rw [if_neg h, if_neg h, e]
  exact ⟨rfl, rfl⟩
theorem so_0 {s : ByteArray} {l : List Section} (h : ¬ 30000 < s.size) (e : secAll s = some l) : soL s = l ∧ soC s = 0 := by
  unfold soL soC
  rw [if_neg h, if_neg h, e]
  exact ⟨rfl, rfl⟩
set_option maxHeartbeats 4000000 in
theorem sectionsOf_spec (s : ByteArray) (hs : s.size ≤ 1048576) : Ret env.P 41 [.s s] (fun r => r = .tup [slL 3 Section.cs (soL s), .i .i64 (soC s)]) := by
  refine Ret.ofFrz ?_
  have hR : ∀ x : List Section × Int, SoI s x → x.2 < s.size → Ret env.P 62 [.s (s.extract x.2.toNat s.size)] (fun r => r = secV (secY (s.extract x.2.toNat s.size)) (secM (s.extract x.2.toNat s.size)) (pb (secF (s.extract x.2.toNat s.size)))) := fun x h e => l17Read_ok _ (by rw [ex_size]; omega) (by rw [ex_size]; have := h.lo; omega)
  refine ret_ofM (nt := 48) (rvs := [.tmp 2, .tmp 3]) Try.func41 rfl rfl rfl rfl (fun X hX => ?_)
  repeat' (first | omega | (with_reducible show (_ : Int) < _; dsimp only; omega) | (with_reducible show (_ : Nat) ≤ _; dsimp only; omega) | ((with_reducible show SrcOk _ _ _) <;> (first | exact srcOk_1 rfl | exact srcOk_L (fun _ => ⟨rfl, rfl⟩) | exact srcOk_E (fun _ => ⟨rfl, rfl⟩))) | ((conv => whnf) <;> (first | (refine lw_del 20 ?_; refine loopFT (fun x : List Section × Int => [(5, .i .i64 x.2), (4, .row 0 x.1.length)]) (fun x => [some (.arr ⟨3, x.1.length, elE Section.cs x.1, .arr⟩)]) (SoI s) (fun x => s.size - x.2.toNat) ([], 5) ⟨so0 (by omega) ‹_›, ?_⟩) | exact lbz_zero rfl rfl | exact low_cells rfl | exact lbz_capC (soi1k ‹SoI s _›) (show 40 ≤ 1000 by decide) | exact lbz_capM (soi1k ‹SoI s _›) | exact soi0 ‹SoI s _› | exact srcOk_1 rfl | refine And.intro ?_ ?_ | (intro _h; first | contradiction | (try simp only [dd] at _h)) | (refine dt_go ?_) | exact rfl | exact True.intro | exact dkk | exact dks | ((first | refine .inl ⟨_, hR _ ‹_› ‹_›, ?_⟩ | refine ⟨_, hR _ ‹_› ‹_›, ?_⟩); (try rintro _ rfl)) | (refine wrap_succ ?_; omega))))
  all_goals first
    | (conv => whnf
       have q := so_4 (s := s) (by omega)
       rw [q.1, q.2]
       exact endM_self (frz0 (frz_tup (.cons Wk.nilS0 (.cons (.refl _) .nil))) rfl))
    | (conv => whnf
       have q := so_18 (s := s) (by omega) (sec_hdr (by omega))
       rw [q.1, q.2]
       exact endM_self (frz0 (frz_tup (.cons Wk.nilS0 (.cons (.refl _) .nil))) rfl))
    | (conv => whnf
       have q := so_18 (s := s) (by omega) (sec_hdr' ‹_›)
       rw [q.1, q.2]
       exact endM_self (frz0 (frz_tup (.cons Wk.nilS0 (.cons (.refl _) .nil))) rfl))
    | (conv => whnf
       have hI := ‹SoI s _›
       have q := so_18 (s := s) (by omega) (hI.bad ‹_› (.inl ‹_›))
       rw [q.1, q.2]
       exact endM_self (frz0 (frz_tup (.cons Wk.nilS0 (.cons (.refl _) .nil))) rfl))
    | (conv => whnf
       have hI := ‹SoI s _›
       have q := so_18 (s := s) (by omega) (hI.bad ‹_› (.inr (by omega)))
       rw [q.1, q.2]
       exact endM_self (frz0 (frz_tup (.cons Wk.nilS0 (.cons (.refl _) .nil))) rfl))
    | (conv => whnf
       have hI := ‹SoI s _›
       have q := so_0 (s := s) (by omega) (hI.fin ‹_›)
       rw [q.1, q.2]
       exact endM_self (frz0 (frz_tup (.cons (shr_L (d := 0) (k := 4) rfl) (.cons (.refl _) .nil))) rfl))
    | (rename List Section × Int => x
       have hI := ‹SoI s x›
       have hf : secF (s.extract x.2.toNat s.size) := Classical.not_not.1 ‹_›
       have hlt : x.2 < (s.size : Int) := ‹_›
       have hn : ¬ 20 ≤ x.1.length := by omega
       have hN := hI.next hs hlt hf hn
       conv => whnf
       refine roundET_turn (turn_eq (id := 3) (x := rowL 3 Section.cs (x.1 ++ [secY (s.extract x.2.toNat s.size)])) rfl rfl lbz_len.symm rfl rfl (snoc_eq (l := x.1) (sz := 3) (a := secY (s.extract x.2.toNat s.size)) (c := Section.cs) rfl (fun j hj => by
         rcases j with _ | _ | _ | j
         · exact .refl _
         · exact .refl _
         · exact .refl _
         · omega))) ?_
       refine roundET_end ?_
       refine ⟨(x.1 ++ [secY (s.extract x.2.toNat s.size)], IntKind.i64.wrap (x.2 + secM (s.extract x.2.toNat s.size))), [3], hN, hI.dec hs hlt hf, ?_⟩
       repeat' (first | omega | (with_reducible show (_ : Int) < _; dsimp only; omega) | (with_reducible show (_ : Nat) ≤ _; dsimp only; omega) | ((with_reducible show SrcOk _ _ _) <;> (first | exact srcOk_1 rfl | exact srcOk_L (fun _ => ⟨rfl, rfl⟩) | exact srcOk_E (fun _ => ⟨rfl, rfl⟩))) | ((conv => whnf) <;> (first | exact arr_same rfl rfl (fun a j => low_cells rfl) | exact low_cells rfl | exact lbz_len | exact lbz_rho hX ‹_› | exact rfl | refine And.intro ?_ ?_ | (intro _h; first | contradiction | (try simp only [dd] at _h)) | (refine dt_go ?_) | exact rfl | exact True.intro | exact dkk | exact dks | (refine wrap_succ ?_; omega)))))
    | trace_state
end
section
attribute [local irreducible] IntKind.wrap
theorem indexFuncIns_ok (l : List Ins) (g : Nat) {fv} (hg : env.F.get g = some fv) (p : Ins → Bool) (hl : l.length ≤ 1048576) (hp : ∀ k, k < l.length → Ret env.P g (.agg (Ins.cs (l.getD k default)) :: []) (fun r => r = .b (p (l.getD k default)))) :
    Ret env.P 59 [slL 2 Ins.cs l, .fn g []] (fun r => r = .i .i64 (idxI (l.findIdx? p))) := by
  refine ret_of (nt := 19) (rvs := [.tmp 4]) Try.func59 rfl rfl rfl rfl (fun X => ?_)
  repeat' (first | omega | (with_reducible show (_ : Int) < _; dsimp only; omega) | (with_reducible show (_ : Nat) ≤ _; dsimp only; omega) | ((with_reducible show SrcOk _ _ _) <;> (first | exact srcOk_1 rfl | exact srcOk_L (fun _ => ⟨rfl, rfl⟩) | exact srcOk_E (fun _ => ⟨rfl, rfl⟩))) | ((conv => whnf) <;> (first | rw [hg] | exact upto_succ (by assumption) (by assumption) | refine loopN l.length (fun k => [(8, .i .i64 k)]) (fun k => []) (fun k => ∀ j, j < k → p (l.getD j default) = false) ⟨fun _ h => by omega, ?_⟩ | refine And.intro ?_ ?_ | (intro _h; first | contradiction | (try simp only [dd] at _h)) | (refine dt_go ?_) | exact rfl | exact True.intro | exact dkk | exact dks | ((first | refine .inl ⟨_, hp _ (by omega), ?_⟩ | refine ⟨_, hp _ (by omega), ?_⟩); (try rintro _ rfl)) | (refine wrap_succ ?_; omega))))
  · exact leaf_i (idx_some (by omega) (by assumption) (by assumption))
  · exact leaf_i (idx_none fun j hj => by have := ‹∀ j, j < _ → p (l.getD j default) = false›; exact this j (by omega))
theorem containsFuncIns_ok (l : List Ins) (g : Nat) {fv} (hg : env.F.get g = some fv) (p : Ins → Bool) (hl : l.length ≤ 1048576) (hp : ∀ k, k < l.length → Ret env.P g (.agg (Ins.cs (l.getD k default)) :: []) (fun r => r = .b (p (l.getD k default)))) :
    Ret env.P 34 [slL 2 Ins.cs l, .fn g []] (fun r => r = .b (l.any p)) := by
  refine ret_of (nt := 9) (rvs := [.tmp 4]) Try.func34 rfl rfl rfl rfl (fun X => ?_)
  repeat' (first | omega | (with_reducible show (_ : Int) < _; dsimp only; omega) | (with_reducible show (_ : Nat) ≤ _; dsimp only; omega) | ((with_reducible show SrcOk _ _ _) <;> (first | exact srcOk_1 rfl | exact srcOk_L (fun _ => ⟨rfl, rfl⟩) | exact srcOk_E (fun _ => ⟨rfl, rfl⟩))) | ((conv => whnf) <;> (first | refine And.intro ?_ ?_ | (intro _h; first | contradiction | (try simp only [dd] at _h)) | (refine dt_go ?_) | exact rfl | exact True.intro | exact dkk | exact dks | ((first | refine .inl ⟨_, indexFuncIns_ok l g hg p hl hp, ?_⟩ | refine ⟨_, indexFuncIns_ok l g hg p hl hp, ?_⟩); (try rintro _ rfl)) | (refine wrap_succ ?_; omega))))
  all_goals exact leaf_b (idx_any _ _)
theorem any_bad {l : List Ins} : (l.any fun i => !i.good) = true ↔ ¬ CodeTo l l.length := by
  rw [List.any_eq_true]
  constructor
  · rintro ⟨x, hx, hb⟩ q
    obtain ⟨j, hj, rfl⟩ := mem_getD hx
    rw [q.h j hj] at hb
    cases hb
  · intro h
    refine Classical.byContradiction fun q => h ⟨fun j hj => ?_⟩
    cases hg : (l.getD j default).good with
    | true => rfl
    | false => exact absurd ⟨l.getD j default, (by rw [List.getD_eq_getElem?_getD, List.getElem?_eq_getElem hj]; exact List.getElem_mem hj), by rw [hg]; rfl⟩ q
theorem any_good {l : List Ins} : (l.any fun i => !i.good) = false ↔ CodeTo l l.length := by
  rw [← Bool.not_eq_true, any_bad, Classical.not_not]
end
section
open Go Go.Shelf
def lays169_ren : Go.Shelf.Ren := ⟨fun | 169 => 22 | n => n, fun | 70 => 44 | 9 => 9 | 0 => 0 | 72 => 46 | 37 => 22 | 127 => 84 | 3 => 3 | 5 => 5 | n => n, fun | n => n⟩
theorem lays169 : Lays.n169 Try.prog lays169_ren := {
  mixed := by kernel_rfl,
  f169 := Try.func22.trans (congrArg some (by kernel_rfl)),
  t0 := Try.underlying0,
  a0 := Try.isAgg0,
  z0 := Try.sizeOf0,
  v0 := Try.zeroValue0,
  t3 := Try.underlying3,
  a3 := Try.isAgg3,
  z3 := Try.sizeOf3,
  v3 := Try.zeroValue3,
  t9 := Try.underlying9,
  a9 := Try.isAgg9,
  z9 := Try.sizeOf9,
  v9 := Try.zeroValue9,
  t37 := Try.underlying22,
  a37 := Try.isAgg22,
  z37 := Try.sizeOf22,
  v37 := Try.zeroValue22,
  t70 := Try.underlying44,
  a70 := Try.isAgg44,
  z70 := Try.sizeOf44,
  v70 := Try.zeroValue44,
  t72 := Try.underlying46,
  a72 := Try.isAgg46,
  z72 := Try.sizeOf46,
  v72 := Try.zeroValue46,
  t127 := Try.underlying84,
  a127 := Try.isAgg84,
  z127 := Try.sizeOf84,
  v127 := Try.zeroValue84 }
def lays170_ren : Go.Shelf.Ren := ⟨fun | 170 => 21 | n => n, fun | 70 => 44 | 3 => 3 | 0 => 0 | 72 => 46 | 37 => 22 | 5 => 5 | n => n, fun | n => n⟩
theorem lays170 : Lays.n170 Try.prog lays170_ren := {
  mixed := by kernel_rfl,
  f170 := Try.func21.trans (congrArg some (by kernel_rfl)),
  t0 := Try.underlying0,
  a0 := Try.isAgg0,
  z0 := Try.sizeOf0,
  v0 := Try.zeroValue0,
  t3 := Try.underlying3,
  a3 := Try.isAgg3,
  z3 := Try.sizeOf3,
  v3 := Try.zeroValue3,
  t37 := Try.underlying22,
  a37 := Try.isAgg22,
  z37 := Try.sizeOf22,
  v37 := Try.zeroValue22,
  t70 := Try.underlying44,
  a70 := Try.isAgg44,
  z70 := Try.sizeOf44,
  v70 := Try.zeroValue44,
  t72 := Try.underlying46,
  a72 := Try.isAgg46,
  z72 := Try.sizeOf46,
  v72 := Try.zeroValue46 }
end
end Go.Proofs.Ytdeledeopippfaa
