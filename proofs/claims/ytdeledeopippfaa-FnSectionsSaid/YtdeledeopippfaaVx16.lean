/- Texts for VSectionsP. -/
import Derived.ProofKit
import Derived.Deep.Slices
import Derived.OpenShut
import Derived.Test.YtdeledeopippfaaVx13
namespace Go.Proofs.Ytdeledeopippfaa
open Go Go.RowKit
set_option linter.unusedVariables false
set_option linter.unusedSimpArgs false
section
variable {P : Program}
inductive TyC (P : Program) : TypeId → List AV → Prop
  | bool {t : TypeId} (b : Bool) (h : P.underlying t = some .bool) : TyC P t [.b b]
  | int {t : TypeId} {k : IntKind} (n : Int) (h : P.underlying t = some (.int k)) (hw : (Lit.int k n).wf = true) : TyC P t [.i k n]
  | string {t : TypeId} (s : ByteArray) (h : P.underlying t = some .string) (hs : s.size ≤ maxLen) : TyC P t [.s s]
  | sl {t e : TypeId} (n : Nat) (g : Nat → Nat → AV) (h : P.underlying t = some (.slice e)) (hm : n ≤ maxLen) (he : ∀ i, i < n → TyC P e (cellsAt (g i) 0 (P.cellsOf e))) : TyC P t [.sl (P.cellsOf e) n g]
  | st {t : TypeId} {fs : Array Field} (ds : List AV) (h : P.underlying t = some (.struct fs)) (hl : ds.length = P.cellsOf t) (hf : ∀ (i : Nat) (f : Field), fs[i]? = some f → TyC P f.type ((ds.drop f.offset).take (P.cellsOf f.type))) : TyC P t ds
def inLine (P : Program) : Nat → List Field → Nat → Bool
  | o, [], n => Nat.beq o n
  | o, f :: fs, n => Nat.beq f.offset o && inLine P (o + P.cellsOf f.type) fs n
def inN (ts : List Nat) (t : Nat) : Bool := ts.any (Nat.beq t)
def plain1 (P : Program) (ts : List TypeId) (t : TypeId) : Bool :=
  match P.underlying t with
  | some .bool | some .string => Nat.beq (P.cellsOf t) 1
  | some (.int _) => Nat.beq (P.cellsOf t) 1
  | some (.slice e) => Nat.beq (P.cellsOf t) 1 && inN ts e && Nat.blt 0 (P.cellsOf e)
  | some (.struct fs) => inLine P 0 fs.toList (P.cellsOf t) && fs.toList.all fun f => inN ts f.type
  | _ => false
def plainT (P : Program) (ts : List TypeId) (t : TypeId) : Bool := inN ts t && ts.all (plain1 P ts)
theorem plainT_1 {P : Program} {ts : List TypeId} {t : TypeId} (h : plainT P ts t = true) : plain1 P ts t = true ∧ ∀ e, inN ts e = true → plainT P ts e = true := by
  unfold plainT at h ⊢
  rw [Bool.and_eq_true] at h
  refine ⟨?_, fun e he => by rw [Bool.and_eq_true]; exact ⟨he, h.2⟩⟩
  obtain ⟨x, hx, he⟩ := List.any_eq_true.1 h.1
  have : t = x := Nat.eq_of_beq_eq_true he
  subst this
  exact List.all_eq_true.1 h.2 _ hx
def partsT (P : Program) (t : TypeId) : List TypeId :=
  match P.underlying t with
  | some (.slice e) => [e]
  | some (.struct fs) => fs.toList.map fun f => f.type
  | _ => []
def addT : List TypeId → List TypeId → List TypeId
  | [], l => l
  | t :: ts, l => bif inN l t then addT ts l else addT ts (l ++ [t])
def closeT (P : Program) : Nat → List TypeId → List TypeId
  | 0, l => l
  | k + 1, l => closeT P k (addT (l.flatMap (partsT P)) l)
def CDs (w : World) (S : Nat → Prop) (ds : List AV) (cs : List Value) : Prop := cs.length = ds.length ∧ (∀ c ∈ ds, c.idf) ∧ ∀ (j : Nat) (c : AV) (u : Value), ds[j]? = some c → cs[j]? = some u → Conc w S (fun _ => ⟨0, 0⟩) [] c u
theorem CDs.append {w : World} {S : Nat → Prop} {ds es : List AV} {cs vs : List Value} (h : CDs w S ds cs) (k : CDs w S es vs) : CDs w S (ds ++ es) (cs ++ vs) := by
  refine ⟨by simp [h.1, k.1], fun c hc => (List.mem_append.1 hc).elim (h.2.1 c) (k.2.1 c), fun j c u hj hu => ?_⟩
  rcases Nat.lt_or_ge j ds.length with hlt | hge
  · rw [List.getElem?_append_left hlt] at hj
    rw [List.getElem?_append_left (by rw [h.1]; exact hlt)] at hu
    exact h.2.2 j c u hj hu
  · rw [List.getElem?_append_right hge] at hj
    rw [List.getElem?_append_right (by rw [h.1]; exact hge), h.1] at hu
    exact k.2.2 _ c u hj hu
theorem spot_none {w : World} {a : Addr} {v : Value} (h : w.cell? a = some v) : a = ⟨a.block, a.off, none⟩ := by
  obtain ⟨b, o, s⟩ := a
  cases s with
  | none => rfl
  | some s =>
    unfold World.cell? at h
    split at h
    · simp at h
    · cases h
theorem lt_heap {w : World} {b o : Nat} {v : Value} (h : w.cell? ⟨b, o, none⟩ = some v) : b < w.heap.size := World.block_lt_of_cell? w _ h
theorem fields_cd {w : World} {S : Nat → Prop} (cs : List Value) (n : Nat) (hn : cs.length = n) : ∀ (fs : List Field) (o : Nat), inLine P o fs n = true → o ≤ n →
    (∀ f ∈ fs, ((cs.drop f.offset).take (P.cellsOf f.type)).length = P.cellsOf f.type ∧ ∃ ds : List AV, CDs w S ds ((cs.drop f.offset).take (P.cellsOf f.type)) ∧ TyC P f.type ds) →
    ∃ ds : List AV, CDs w S ds (cs.drop o) ∧ ∀ (i : Nat) (f : Field), fs[i]? = some f → o ≤ f.offset ∧ TyC P f.type ((ds.drop (f.offset - o)).take (P.cellsOf f.type))
  | [], o, h, ho, _ => by
    obtain rfl : o = n := Nat.eq_of_beq_eq_true h
    have : cs.drop o = [] := List.drop_eq_nil_of_le (by omega)
    rw [this]
    exact ⟨[], ⟨rfl, by simp, fun j c u hj => by simp at hj⟩, fun i f hi => by simp at hi⟩
  | f :: fs, o, h, ho, hf => by
    unfold inLine at h
    rw [Bool.and_eq_true] at h
    obtain rfl : f.offset = o := Nat.eq_of_beq_eq_true h.1
    obtain ⟨hl, ds1, hc1, ht1⟩ := hf f (by simp)
    have hle : f.offset + P.cellsOf f.type ≤ n := by
      simp at hl
      omega
    obtain ⟨ds2, hc2, ht2⟩ := fields_cd cs n hn fs (f.offset + P.cellsOf f.type) h.2 hle fun g hg => hf g (by simp [hg])
    have hd1 : ds1.length = P.cellsOf f.type := hc1.1.symm.trans hl
    refine ⟨ds1 ++ ds2, ?_, fun i g hi => ?_⟩
    · have := hc1.append hc2
      rwa [← List.drop_drop, List.take_append_drop] at this
    · cases i with
      | zero =>
        obtain rfl : f = g := by simpa using hi
        refine ⟨Nat.le_refl _, ?_⟩
        rw [Nat.sub_self, List.drop_zero, ← hd1, List.take_left]
        exact ht1
      | succ i =>
        obtain ⟨h1, h2⟩ := ht2 i g (by simpa using hi)
        refine ⟨by omega, ?_⟩
        rw [List.drop_append, List.drop_eq_nil_of_le (by omega), List.nil_append, hd1, show g.offset - f.offset - P.cellsOf f.type = g.offset - (f.offset + P.cellsOf f.type) by omega]
        exact h2
theorem cd_of_trod {H : Type} {enc : TypeId × Value → H} {w : World} {spare : Nat → Bool} {held : Bool} {S : Nat → Prop} (hS : ∀ b, b < w.heap.size → S b) :
    ∀ (ts : List TypeId) (k : Nat) (t : TypeId), plainT P ts t = true → ∀ (fuel : Nat) (cs : List Value) (x : DataW H × List MemPlace), SizeOf.sizeOf x.1 < k → DataW.trod enc P w 0 spare held fuel t cs = some x → cs.length = P.cellsOf t ∧ ∃ ds : List AV, CDs w S ds cs ∧ TyC P t ds := by
  have one : ∀ (u : Value) (d : AV), Conc w S (fun _ => ⟨0, 0⟩) [] d u → d.idf → CDs w S [d] [u] := by
    intro u d h hi
    refine ⟨rfl, by simpa using hi, fun j c v hj hv => ?_⟩
    cases j with
    | zero => cases hj; cases hv; exact h
    | succ j => cases hj
  intro ts k
  induction k with
  | zero => intro t _ _ _ x hx; exact absurd hx (Nat.not_lt_zero _)
  | succ k ih =>
    intro t ht fuel cs x hsz h
    obtain ⟨ht, hts⟩ := plainT_1 ht
    unfold plain1 at ht
    cases hu : P.underlying t with
    | none => rw [hu] at ht; cases ht
    | some d =>
      rw [hu] at ht
      cases d with
      | bool =>
        obtain ⟨b, rfl, _⟩ := DataW.trod_bool hu h
        exact ⟨(Nat.eq_of_beq_eq_true ht).symm, [.b b], one _ _ (.b _) trivial, .bool b hu⟩
      | string =>
        obtain ⟨s, rfl, _, hs⟩ := DataW.trod_string hu h
        exact ⟨(Nat.eq_of_beq_eq_true ht).symm, [.s s], one _ _ (.s hs) trivial, .string s hu hs⟩
      | int kd =>
        obtain ⟨n, rfl, _, hw⟩ := DataW.trod_int hu h
        exact ⟨(Nat.eq_of_beq_eq_true ht).symm, [.i kd n], one _ _ (.i hw) trivial, .int n hu hw⟩
      | slice e =>
        dsimp only at ht
        rw [Bool.and_eq_true, Bool.and_eq_true] at ht
        obtain ⟨⟨h1, h2⟩, h3⟩ := ht
        have h3' := Nat.le_of_ble_eq_true h3
        rcases Go.Deep.open_slice hu h with ⟨rfl, _⟩ | ⟨a, len, cap, m, n, Dt, Pl, rfl, hb, hl, hm, hmm, hx, hi⟩
        · exact ⟨(Nat.eq_of_beq_eq_true h1).symm, [.sl (P.cellsOf e) 0 fun _ _ => .any], one _ _ (.sl0 _ 0 (Nat.zero_le _)) (fun i j hi => by omega), .sl 0 _ hu (Nat.zero_le _) (fun i hi => by omega)⟩
        · have hlm : len ≤ m := by rw [hmm]; split <;> omega
          have hall : ∀ i, i < len → ∃ (cs' : List Value) (ds : List AV), cs'.length = P.cellsOf e ∧ (∀ j, j < P.cellsOf e → w.cell? ((a.add (i * P.cellsOf e)).add j) = cs'[j]?) ∧ CDs w S ds cs' ∧ TyC P e ds := by
            intro i hilt
            obtain ⟨cs', hc, ht'⟩ := hi i (by omega)
            obtain ⟨_, hcl, hat⟩ := World.cells?_some hc
            obtain ⟨_, ds, hd1, hd2⟩ := ih e (hts e h2) n cs' _ (by
              subst hx
              have hm : Dt i ∈ (List.range len).map Dt := List.mem_map.2 ⟨i, List.mem_range.2 hilt, rfl⟩
              have := List.sizeOf_lt_of_mem hm
              simp only [DataW.slice.sizeOf_spec] at hsz
              dsimp only
              omega) ht'
            exact ⟨cs', ds, hcl, hat, hd1, hd2⟩
          refine ⟨(Nat.eq_of_beq_eq_true h1).symm, ?_⟩
          rcases Nat.eq_zero_or_pos len with h0 | h0
          · subst h0
            exact ⟨[.sl (P.cellsOf e) 0 fun _ _ => .any], one _ _ (.sl0 _ cap hm) (fun i j hi => by omega), .sl 0 _ hu (Nat.zero_le _) (fun i hi => by omega)⟩
          · obtain ⟨cs0, ds0, hl0, hat0, _⟩ := hall 0 h0
            have hsp0 := hat0 0 h3'
            rw [List.getElem?_eq_getElem (by omega)] at hsp0
            have ha : a = ⟨a.block, a.off, none⟩ := by
              have := spot_none hsp0
              unfold Addr.add at this
              simp at this
              exact spot_none (by simpa [Addr.add] using hsp0)
            generalize hab : a.block = b at ha
            generalize hao : a.off = o at ha
            subst ha
            have hlt : b < w.heap.size := by
              rw [Nat.zero_mul, add_mk, add_mk] at hsp0
              exact lt_heap hsp0
            let ds : Nat → List AV := fun i => if h : i < len then Classical.choose (Classical.choose_spec (hall i h)) else []
            let vs : Nat → List Value := fun i => if h : i < len then Classical.choose (hall i h) else []
            have hds : ∀ i, i < len → (vs i).length = P.cellsOf e ∧ (∀ j, j < P.cellsOf e → w.cell? (((⟨b, o, none⟩ : Addr).add (i * P.cellsOf e)).add j) = (vs i)[j]?) ∧ CDs w S (ds i) (vs i) ∧ TyC P e (ds i) := by
              intro i hi
              have e1 : ds i = Classical.choose (Classical.choose_spec (hall i hi)) := dif_pos hi
              have e2 : vs i = Classical.choose (hall i hi) := dif_pos hi
              rw [e1, e2]
              exact Classical.choose_spec (Classical.choose_spec (hall i hi))
            have hcell : ∀ i, i < len → cellsAt (fun j => (ds i).getD j .any) 0 (P.cellsOf e) = ds i := by
              intro i hi
              obtain ⟨q1, _, q3, _⟩ := hds i hi
              apply List.ext_getElem?
              intro j
              by_cases hj : j < P.cellsOf e
              · have hl : j < (cellsAt (fun j => (ds i).getD j .any) 0 (P.cellsOf e)).length := by rw [cellsAt_length]; exact hj
                obtain ⟨_, h2⟩ := cellsAt_get (fun j => (ds i).getD j .any) (P.cellsOf e) 0 j _ (List.getElem?_eq_getElem hl)
                rw [List.getElem?_eq_getElem hl, h2]
                have : j < (ds i).length := by rw [← q3.1, q1]; exact hj
                simp [this]
              · rw [List.getElem?_eq_none (by rw [cellsAt_length]; omega), List.getElem?_eq_none (by rw [← q3.1, q1]; omega)]
            have hidf : ∀ i j, i < len → j < P.cellsOf e → ((ds i).getD j .any).idf := by
              intro i j hi hj
              obtain ⟨q1, _, q3, _⟩ := hds i hi
              have hl : j < (ds i).length := by rw [← q3.1, q1]; exact hj
              have : (ds i).getD j .any = (ds i)[j] := by simp [hl]
              rw [this]
              exact q3.2.1 _ (List.getElem_mem hl)
            refine ⟨[.sl (P.cellsOf e) len fun i j => (ds i).getD j .any], one _ _ ?_ hidf, .sl len _ hu (by omega) fun i hi => ?_⟩
            · refine .sl b o cap (fun i j => (vs i).getD j undef) (hS b hlt) hl hm (fun i j hi hj => ?_) hidf (fun i j hi hj => ?_)
              all_goals
                obtain ⟨q1, q2, q3, _⟩ := hds i hi
                have hv : (vs i)[j]? = some ((vs i)[j]'(by omega)) := List.getElem?_eq_getElem _
                have hg : (vs i).getD j undef = (vs i)[j]'(by omega) := by simp [hv]
                rw [hg]
              · have := q2 j hj
                rw [add_mk, add_mk, hv] at this
                exact this
              · have hl : j < (ds i).length := by rw [← q3.1, q1]; exact hj
                have hd : (ds i).getD j .any = (ds i)[j] := by simp [hl]
                rw [hd]
                exact q3.2.2 j _ _ (List.getElem?_eq_getElem hl) hv
            · rw [hcell i hi]
              exact (hds i hi).2.2.2
      | struct fs =>
        dsimp only at ht
        rw [Bool.and_eq_true] at ht
        obtain ⟨h1, h2⟩ := ht
        obtain ⟨xs, n, _, hx, hcl, hxl, hg⟩ := DataW.trod_struct hu h
        refine ⟨hcl, ?_⟩
        obtain ⟨ds, hc, hty⟩ := fields_cd (w := w) (S := S) cs _ hcl fs.toList 0 h1 (Nat.zero_le _) (fun f hf => by
          obtain ⟨i, hi⟩ := List.getElem?_of_mem hf
          have hi' : fs[i]? = some f := by simpa using hi
          have hil : i < xs.length := by rw [hxl]; exact (Array.getElem?_eq_some_iff.1 hi').1
          have ht' := hg i f hi'
          rw [List.getElem?_eq_getElem hil] at ht'
          refine ih f.type (hts _ (List.all_eq_true.1 h2 f hf)) n _ _ ?_ ht'
          subst hx
          have hm : xs[i].1 ∈ xs.map (·.1) := List.mem_map.2 ⟨_, List.getElem_mem hil, rfl⟩
          have := List.sizeOf_lt_of_mem hm
          simp only [DataW.agg.sizeOf_spec] at hsz
          omega)
        rw [List.drop_zero] at hc
        refine ⟨ds, hc, .st ds hu (hc.1.symm.trans hcl) fun i f hi => ?_⟩
        have := (hty i f (by simpa using hi)).2
        rwa [Nat.sub_zero] at this
      | _ => cases ht
def aggT (P : Program) (t : TypeId) : Bool := match P.underlying t with | some (.struct _) => true | _ => false
def mkArg (P : Program) (t : TypeId) (ds : List AV) : AV := bif aggT P t then .agg ds else ds.headD .any
open Go.ChangeShapes Go.WideShapes in
theorem conc_of_trod {H : Type} {enc : TypeId × Value → H} {w : World} {spare : Nat → Bool} {held : Bool} {r : Reach} {b0 : Nat} {k : List TypeId} {t : TypeId} {v : Value} {d : DataW H} {ps : List MemPlace} (hp : plainT P k t = true)
    (hv : Value.okWide P w r b0 t v) (h : DataW.Trod enc P w 0 spare held t v d ps) :
    ∃ ds : List AV, TyC P t ds ∧ Conc w (fun b => b < w.heap.size) (fun _ => ⟨0, 0⟩) [] (mkArg P t ds) v := by
  obtain ⟨fuel, hf⟩ := h
  obtain ⟨hl, ds, hc, hty⟩ := cd_of_trod (S := fun b => b < w.heap.size) (fun b hb => hb) k _ t hp fuel _ _ (Nat.lt_succ_self _) hf
  refine ⟨ds, hty, ?_⟩
  replace hp := (plainT_1 hp).1
  · unfold plain1 at hp
    have single : v.cells = #[v] → P.cellsOf t = 1 → aggT P t = false → Conc w (fun b => b < w.heap.size) (fun _ => ⟨0, 0⟩) [] (mkArg P t ds) v := by
      intro h1 h2 h3
      unfold mkArg
      rw [h3, cond_false]
      have hdl : ds.length = 1 := by rw [← hc.1, hl, h2]
      obtain ⟨x, rfl⟩ := List.length_eq_one_iff.1 hdl
      exact hc.2.2 0 x v rfl (by rw [h1]; rfl)
    cases hu : P.underlying t with
    | none => rw [hu] at hp; cases hp
    | some ty =>
      rw [hu] at hp
      cases ty with
      | bool =>
        obtain ⟨b, rfl⟩ := okWide_bool hu hv
        exact single rfl (Nat.eq_of_beq_eq_true hp) (by simp [aggT, hu])
      | string =>
        obtain ⟨b, rfl⟩ := okWide_string hu hv
        exact single rfl (Nat.eq_of_beq_eq_true hp) (by simp [aggT, hu])
      | int kd =>
        obtain ⟨b, rfl⟩ := okWide_int hu hv
        exact single rfl (Nat.eq_of_beq_eq_true hp) (by simp [aggT, hu])
      | slice e =>
        obtain ⟨a, n, c, rfl⟩ := okWide_slice hu hv
        dsimp only at hp
        rw [Bool.and_eq_true, Bool.and_eq_true] at hp
        exact single rfl (Nat.eq_of_beq_eq_true hp.1.1) (by simp [aggT, hu])
      | struct fs =>
        obtain ⟨cs, rfl, hs⟩ := okWide_struct hu hv
        unfold mkArg
        rw [show aggT P t = true by simp [aggT, hu], cond_true]
        have : (Value.agg cs).cells.toList = cs.toList := rfl
        rw [this] at hc
        have h2 := Conc.agg (w := w) (S := fun b => b < w.heap.size) (blk := fun _ => ⟨0, 0⟩) (H := []) ds cs.toList hc.1 hc.2.2
        simpa using h2
      | _ => cases hp
inductive TyCs (P : Program) : List TypeId → List (List AV) → Prop
  | nil : TyCs P [] []
  | cons {t : TypeId} {ts : List TypeId} {ds : List AV} {dss : List (List AV)} (h : TyC P t ds) (r : TyCs P ts dss) : TyCs P (t :: ts) (ds :: dss)
def mkArgs (P : Program) : List TypeId → List (List AV) → List AV
  | t :: ts, ds :: dss => mkArg P t ds :: mkArgs P ts dss
  | _, _ => []
theorem args_conc {H : Type} {enc : TypeId × Value → H} {w : World} {spare : Nat → Bool} {held : Bool} {r : Reach} {b0 : Nat} {k : List TypeId} : ∀ {ts : List TypeId} {vs : List Value} {ds : List (DataW H)} {ps : List MemPlace},
    DataW.TrodAll enc P w 0 spare held ts vs ds ps → (∀ t ∈ ts, plainT P k t = true) → (∀ (j : Nat) (t : TypeId) (v : Value), ts[j]? = some t → vs[j]? = some v → Value.okWide P w r b0 t v) →
    ∃ dss : List (List AV), TyCs P ts dss ∧ ConcL w (fun b => b < w.heap.size) (fun _ => ⟨0, 0⟩) [] (mkArgs P ts dss) vs
  | [], [], _, _, _, _, _ => ⟨[], .nil, rfl, fun j c u hj => by simp [mkArgs] at hj⟩
  | [], _ :: _, [], _, h, _, _ => h.elim
  | [], _ :: _, _ :: _, _, h, _, _ => h.elim
  | _ :: _, [], _, _, h, _, _ => by cases h
  | t :: ts, v :: vs, [], _, h, _, _ => by cases h
  | t :: ts, v :: vs, d :: ds, ps, h, hp, hv => by
    obtain ⟨p, q, h1, h2, _⟩ := h
    obtain ⟨d1, ht1, hc1⟩ := conc_of_trod (hp t (by simp)) (hv 0 t v rfl rfl) h1
    obtain ⟨dss, ht2, hc2⟩ := args_conc h2 (fun t ht => hp t (by simp [ht])) (fun j t v hj hvj => hv (j + 1) t v (by simpa using hj) (by simpa using hvj))
    refine ⟨d1 :: dss, .cons ht1 ht2, by simp [mkArgs, hc2.1], fun j c u hj hu => ?_⟩
    cases j with
    | zero =>
      obtain rfl : mkArg P t d1 = c := by simpa [mkArgs] using hj
      obtain rfl : v = u := by simpa using hu
      exact hc1
    | succ j => exact hc2.2 j c u (by simpa [mkArgs] using hj) (by simpa using hu)
theorem trodAll_below {H : Type} {enc : TypeId × Value → H} {W W' : World} (hl : laidOutB P = true) (hb : Below W.heap.size W W') {sp : Nat → Bool} : ∀ {ts : List TypeId} {vs : List Value} {ds : List (DataW H)} {ps : List MemPlace},
    (∀ t ∈ ts, P.readableRec t = true ∧ t < P.types.size) → DataW.TrodAll enc P W 0 (fun _ => true) true ts vs ds ps → (∀ p ∈ ps, p.block < W.heap.size) → (∀ p ∈ ps, sp p.block = true) → DataW.TrodAll enc P W' 0 sp true ts vs ds ps
  | [], [], [], _, _, h, _, _ => h
  | [], [], _ :: _, _, _, h, _, _ => h.elim
  | [], _ :: _, [], _, _, h, _, _ => h.elim
  | [], _ :: _, _ :: _, _, _, h, _, _ => h.elim
  | _ :: _, [], [], _, _, h, _, _ => h.elim
  | _ :: _, [], _ :: _, _, _, h, _, _ => h.elim
  | _ :: _, _ :: _, [], _, _, h, _, _ => h.elim
  | t :: ts, v :: vs, d :: ds, ps, hr, h, hlt, hsp => by
    obtain ⟨p, q, h1, h2, rfl⟩ := h
    exact ⟨p, q, WideElems.Trod_stays hl (hr t (by simp)).1 (hr t (by simp)).2 h1 (fun x hx => hb.same (hlt x (by simp [hx]))) (fun x hx => hsp x (by simp [hx])),
      trodAll_below hl hb (fun t ht => hr t (by simp [ht])) h2 (fun x hx => hlt x (by simp [hx])) (fun x hx => hsp x (by simp [hx])), rfl⟩
open Go.ChangeShapes Go.WideShapes in
theorem post_law {H : Type} {enc : TypeId × Value → H} {f : Func} {s : ChangeSpec} {W W' : World} {args : Array Value} {ds : List (DataW H)} {before : List MemPlace} {tb : TypeId} (hvars : s.vars = [])
    (hW : DataW.Whole enc P f.params.toList s.vars false W args.toList ds [] before) (hb : Below W.heap.size W W') (hl : laidOutB P = true) (hr : ∀ t ∈ f.params.toList, P.readableRec t = true ∧ t < P.types.size)
    (hres : f.resultTypes = #[tb]) (hbool : P.underlying tb = some .bool) (hspec : s.fn H (ds ++ []) = { results := [.lit (.bool true)], args := ds }) :
    s.post enc P f false true false false W args (.bool true) W' := by
  have hlt : ∀ p ∈ before, p.block < W.heap.size := fun p hp => hW.lt p hp
  obtain ⟨p, q, hA, hV, hpq, hz, hn⟩ := id hW
  have hq : q = [] := by
    rw [hvars] at hV
    exact (trodVars_none hV).2
  subst hq
  rw [List.append_nil] at hpq
  subst hpq
  have hargs : ∀ sp : Nat → Bool, (∀ p ∈ before, sp p.block = true) → DataW.TrodAll enc P W' 0 sp true f.params.toList args.toList ds before := fun sp hsp => trodAll_below hl hb hr hA hlt hsp
  have hresl : (Value.bool true).resultList f.resultTypes.size = [.bool true] := by rw [hres]; rfl
  have hrest : ∀ (b : Nat) (sp : Nat → Bool) (hd : Bool), DataW.TrodAll enc P W' b sp hd f.resultTypes.toList [.bool true] [.lit (.bool true)] [] := fun b sp hd => by
    rw [hres]
    exact trodAll_cons_mk (shut_bool hbool _) trodAll_mk0
  have hvs : ∀ sp : Nat → Bool, DataW.TrodVars enc P W' sp s.vars ([] : List (DataW H)) [] := fun sp => by rw [hvars]; rfl
  have hold : ∀ p ∈ before, (fun b => decide (b < W.heap.size)) p.block = true := fun p hp => by simpa using hlt p hp
  refine ⟨ds, [], before, [], before, [], hW, ?_, ?_, ?_, World.keptBut_mono (fun p hp => ⟨hp, .inr ?_⟩) (hb.frame (· ∈ before)), fun h => by cases h⟩
  · rw [hspec, hresl]; exact hrest _ _ _
  · rw [hspec]; exact hargs _ hold
  · rw [hspec]; exact hvs _
  · simpa using hp
theorem trodAll_len {H : Type} {enc : TypeId × Value → H} {W : World} {b : Nat} {sp : Nat → Bool} {hd : Bool} : ∀ {ts : List TypeId} {vs : List Value} {ds : List (DataW H)} {ps : List MemPlace}, DataW.TrodAll enc P W b sp hd ts vs ds ps → ds.length = ts.length
  | [], [], [], _, _ => rfl
  | [], [], _ :: _, _, h => h.elim
  | [], _ :: _, [], _, h => h.elim
  | [], _ :: _, _ :: _, _, h => h.elim
  | _ :: _, [], [], _, h => by cases h
  | _ :: _, [], _ :: _, _, h => by cases h
  | _ :: _, _ :: _, [], _, h => by cases h
  | t :: ts, v :: vs, d :: ds, ps, h => by
    obtain ⟨p, q, h1, h2, _⟩ := h
    simp [trodAll_len h2]
theorem TyCs.nil_inv {dss : List (List AV)} (h : TyCs P [] dss) : dss = [] := by cases h; rfl
theorem TyCs.cons_inv {t : TypeId} {ts : List TypeId} {dss : List (List AV)} (h : TyCs P (t :: ts) dss) : ∃ ds rs, dss = ds :: rs ∧ TyC P t ds ∧ TyCs P ts rs := by
  cases h with | cons h r => exact ⟨_, _, rfl, h, r⟩
theorem TyC.int_inv {t : TypeId} {k : IntKind} {ds : List AV} (hu : P.underlying t = some (.int k)) (h : TyC P t ds) : ∃ n, ds = [.i k n] ∧ (Lit.int k n).wf = true := by
  cases h <;> simp_all
theorem TyC.sl_inv {t e : TypeId} {ds : List AV} (hu : P.underlying t = some (.slice e)) (h : TyC P t ds) : ∃ n g, ds = [.sl (P.cellsOf e) n g] ∧ n ≤ maxLen ∧ ∀ i, i < n → TyC P e (cellsAt (g i) 0 (P.cellsOf e)) := by
  cases h with
  | sl n g h hm he => rw [hu] at h; cases h; exact ⟨n, g, rfl, hm, he⟩
  | _ => simp_all
inductive TyF (P : Program) : List TypeId → List AV → Prop
  | nil : TyF P [] []
  | cons {t : TypeId} {ts : List TypeId} {a b : List AV} (h : TyC P t a) (r : TyF P ts b) : TyF P (t :: ts) (a ++ b)
theorem TyF.nil_inv {ds : List AV} (h : TyF P [] ds) : ds = [] := by cases h; rfl
theorem TyF.cons_inv {t : TypeId} {ts : List TypeId} {ds : List AV} (h : TyF P (t :: ts) ds) : ∃ a b, ds = a ++ b ∧ TyC P t a ∧ TyF P ts b := by
  cases h with | cons h r => exact ⟨_, _, rfl, h, r⟩
open Go.ChangeShapes Go.WideShapes in
theorem law_end {H : Type} {enc : TypeId × Value → H} {g : FuncId} {f : Func} {s : ChangeSpec} {W : World} {base : Nat} {k : List TypeId} {args : Array Value} {ds gs : List (DataW H)} {before : List MemPlace} {tb : TypeId}
    (hvars : s.vars = []) (hl : laidOutB P = true) (hp : (f.params.toList.all fun t => plainT P k t && (P.readableRec t && Nat.blt t P.types.size)) = true)
    (hres : f.resultTypes = #[tb]) (hbool : P.underlying tb = some .bool)
    (hspec : ∀ ds : List (DataW H), ds.length = f.params.toList.length → s.fn H (ds ++ []) = { results := [.lit (.bool true)], args := ds })
    (hpc : ∀ dss, TyCs P f.params.toList dss → Ret P g (mkArgs P f.params.toList dss) fun r => r = .b true)
    (hval : ∀ (j : Nat) t v, f.params[j]? = some t → args[j]? = some v → Value.okWide P W .any base t v)
    (hW : DataW.Whole enc P f.params.toList s.vars false W args.toList ds gs before) (hgl : Gl W (fun b => b < W.heap.size)) :
    Calls P g args W fun e W' => ∃ v, e = .returned v ∧ s.post enc P f false true false false W args v W' := by
  obtain ⟨p, q, hA, hV, hpq, hz, hn⟩ := id hW
  have hall := List.all_eq_true.1 hp
  obtain rfl : gs = [] := by rw [hvars] at hV; exact (trodVars_none hV).1
  obtain ⟨dss, hty, hc⟩ := args_conc hA (fun t ht => (Bool.and_eq_true _ _ ▸ hall t ht).1) (fun j t v hj hv => hval j t v (by simpa using hj) (by simpa using hv))
  refine ((hpc dss hty).h W (fun b => b < W.heap.size) args.toList ⟨fun b hb => hb, hgl⟩ hc).mono fun e W' ⟨r, u, he, hr, hcr, hb⟩ => ?_
  subst hr
  obtain rfl := inv_b hcr
  refine ⟨_, he, post_law hvars hW hb hl (fun t ht => ?_) hres hbool (hspec ds (trodAll_len hA))⟩
  have := hall t ht
  rw [Bool.and_eq_true, Bool.and_eq_true] at this
  exact ⟨this.2.1, Nat.blt_eq.mp this.2.2⟩
end
end Go.Proofs.Ytdeledeopippfaa
