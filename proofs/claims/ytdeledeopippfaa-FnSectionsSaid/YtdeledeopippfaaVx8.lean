/- Texts for VSectionsP. -/
import Derived.Lib.AppendStr
import Derived.Laws.AppendOwn
import Derived.Test.YtdeledeopippfaaVx7
namespace Go.Proofs.Ytdeledeopippfaa
open Go Go.RowKit
set_option linter.unusedVariables false
set_option linter.unusedSimpArgs false
section
def cp1 : AV → Bool
  | .any | .agg _ | .tup _ | .ow .. => false
  | _ => true
theorem cp1_ow {x : AV} (h : cp1 x = true) : x.isOw = false := by cases x <;> first | rfl | cases h
theorem cp1_one {x : AV} (h : cp1 x = true) (hi : x.idf) : x.one1 = true := by
  cases x <;> first | exact hi.elim | rfl | cases h
structure SrcOk (m sz : Nat) (g : Nat → Nat → AV) : Prop where
  h : ∀ i j, i < m → j < sz → cp1 (g i j) = true
def srcF (H : Hp) : AV → Option (Nat × Nat × (Nat → Nat → AV))
  | .sl sz m g => some (sz, m, g)
  | .row id m => (match H[id]? with | some (some r) => some (r.sz, m, r.es) | _ => none)
  | .rs id o m => (match H[id]? with | some (some r) => some (r.sz, m, fun i j => r.es (o + i) j) | _ => none)
  | _ => none
section
variable {E : Env} {P : Program} {nt : Nat} {X : Ctx} {f : Fr} {H : Hp} {ty : TypeId} {a : Act} {w : World} {blk : Nat → BC} {FP : Nat → List Nat}
theorem src_of (s : StB nt X f H blk FP a w) {x : AV} {u : Value} {sz m : Nat} {g : Nat → Nat → AV} (hc : Conc w (X.S FP H w.heap.size) blk H x u) (hx : srcF H x = some (sz, m, g)) (hok : SrcOk m sz g) :
    ∃ (A : Option Addr) (c : Nat) (U : Nat → Nat → Value), u = .slice A m c ∧ (0 < m → ∃ b o, A = some ⟨b, o, none⟩) ∧ ∀ i j, i < m → j < sz → (∀ b o, A = some ⟨b, o, none⟩ → w.cell? ⟨b, o + (i * sz + j), none⟩ = some (U i j)) ∧ (U i j).oneCell' = true ∧ Conc w (X.S FP H w.heap.size) blk H (g i j) (U i j) := by
  cases x with
  | sl sz' m' g' =>
    cases hx
    rcases Nat.eq_zero_or_pos m with h0 | h0
    · subst h0
      cases hc with
      | sl0 ad cap hm => exact ⟨ad, cap, fun _ _ => undef, rfl, fun h => by omega, fun i j hi => by omega⟩
      | sl b o cap U hS hn hm hcc hf hu => exact ⟨_, cap, U, rfl, fun h => by omega, fun i j hi => by omega⟩
    · obtain ⟨b, o, cap, U, rfl, hS, hn, hm, hcc, hu, hf⟩ := inv_sl hc h0
      refine ⟨_, cap, U, rfl, fun _ => ⟨b, o, rfl⟩, fun i j hi hj => ⟨?_, (hu i j hi hj).one1 (cp1_one (hok.h i j hi hj) (hf i j hi hj)), hu i j hi hj⟩⟩
      intro b' o' e
      cases e
      rw [← Nat.add_assoc]
      exact hcc i j hi hj
  | row id m' =>
    unfold srcF at hx
    dsimp only at hx
    split at hx
    · rename_i r hr
      cases hx
      rcases inv_row hr hc with ⟨rfl, hn, hle, h0, hm⟩ | ⟨ad, rfl, rfl, h0, h1⟩
      · rcases (s.rows id r hr).1 with hrow | ⟨_, _, _, _, ty', cur, F, hb, hcur, hall, hcells, hF1, hF2⟩
        · omega
        refine ⟨_, _, fun i j => cur.getD (i * r.sz + j) undef, rfl, fun _ => ⟨_, 0, rfl⟩, fun i j hi hj => ?_⟩
        obtain ⟨u, hu, ho, hcu⟩ := hcells i j (by omega) hj
        have hg : cur.getD (i * r.sz + j) undef = u := by simp [hu]
        dsimp only
        rw [hg]
        refine ⟨?_, ho, hcu.conc (cp1_ow (hok.h i j hi hj))⟩
        intro b' o' e
        cases e
        rw [RowAt.cell hb, Nat.zero_add]
        exact hu
      · exact ⟨ad, 0, fun _ _ => undef, rfl, fun h => by omega, fun i j hi => by omega⟩
    · cases hx
  | rs id k m' =>
    unfold srcF at hx
    dsimp only at hx
    split at hx
    · rename_i r hr
      cases hx
      obtain ⟨ad, rfl, hn, hle, hm, ha⟩ := inv_rs hr hc
      rcases Nat.eq_zero_or_pos m with h0 | h0
      · exact ⟨ad, _, fun _ _ => undef, rfl, fun h => by omega, fun i j hi => by omega⟩
      obtain rfl := ha (by omega)
      rcases (s.rows id r hr).1 with hrow | ⟨_, _, _, _, ty', cur, F, hb, hcur, hall, hcells, hF1, hF2⟩
      · omega
      refine ⟨_, _, fun i j => cur.getD ((k + i) * r.sz + j) undef, rfl, fun _ => ⟨_, _, rfl⟩, fun i j hi hj => ?_⟩
      obtain ⟨u, hu, ho, hcu⟩ := hcells (k + i) j (by omega) hj
      have hg : cur.getD ((k + i) * r.sz + j) undef = u := by simp [hu]
      dsimp only
      rw [hg]
      refine ⟨?_, ho, hcu.conc (cp1_ow (hok.h i j hi hj))⟩
      intro b' o' e
      cases e
      rw [RowAt.cell hb, ← Nat.add_assoc, ← Nat.add_mul]
      exact hu
    · cases hx
  | _ => cases hx
def flat (U : Nat → Nat → Value) (m sz : Nat) : List Value := (List.range (m * sz)).map fun k => U (k / sz) (k % sz)
theorem flat_len (U : Nat → Nat → Value) (m sz : Nat) : (flat U m sz).length = m * sz := by simp [flat]
theorem flat_at {U : Nat → Nat → Value} {m sz i j : Nat} (hi : i < m) (hj : j < sz) : (flat U m sz)[i * sz + j]? = some (U i j) := by
  have := at_lt hi hj
  obtain ⟨h1, h2⟩ := div_mod_at (i := i) hj
  simp [flat, this, h1, h2]
theorem flat_all {U : Nat → Nat → Value} {m sz : Nat} {p : Value → Prop} (h : ∀ i j, i < m → j < sz → p (U i j)) : ∀ v ∈ flat U m sz, p v := by
  intro v hv
  obtain ⟨k, hk, rfl⟩ := List.mem_map.1 hv
  obtain ⟨h1, h2, h3⟩ := lt_at (List.mem_range.1 hk)
  exact h _ _ h1 h2
theorem StB.repl {id : Nat} {r r' : Row} {bc : BC} {fp' : List Nat} {w' : World} (s : StB nt X f H blk FP a w) (hr : H[id]? = some (some r))
    (hkeep : ∀ b, b < w.heap.size → b ∉ FP id → w'.heap[b]? = w.heap[b]?) (hsize : w.heap.size ≤ w'.heap.size) (hos : w'.os = w.os) (htape : w'.tape = w.tape) (hout : w'.output = w.output)
    (hfp : ∀ b ∈ fp', (b ∈ FP id ∨ w.heap.size ≤ b) ∧ b < w'.heap.size)
    (hrow : ∀ (hS : ∀ b, X.S FP H w.heap.size b → X.S (fun k => if k = H.length then fp' else FP k) (H.set id none ++ [some r']) w'.heap.size b ∧ w'.heap[b]? = w.heap[b]?),
      HExt H blk (H.set id none ++ [some r']) (fun k => if k = H.length then bc else blk k) → RowOk w' (X.S (fun k => if k = H.length then fp' else FP k) (H.set id none ++ [some r']) w'.heap.size) (fun k => if k = H.length then bc else blk k) (H.set id none ++ [some r']) fp' bc r') :
    StB nt X f (H.set id none ++ [some r']) (fun k => if k = H.length then bc else blk k) (fun k => if k = H.length then fp' else FP k) a w' ∧
      ∀ b, X.S FP H w.heap.size b → X.S (fun k => if k = H.length then fp' else FP k) (H.set id none ++ [some r']) w'.heap.size b ∧ w'.heap[b]? = w.heap[b]? := by
  have hlen : (H.set id none).length = H.length := by simp
  have hid : id < H.length := (List.getElem?_eq_some_iff.1 hr).1
  have hcase : ∀ {k : Nat} {r2 : Row}, (H.set id none ++ [some r'])[k]? = some (some r2) → (k ≠ id ∧ k < H.length ∧ H[k]? = some (some r2)) ∨ (k = H.length ∧ r2 = r') := by
    intro k r2 h
    rcases Nat.lt_or_ge k H.length with hlt | hge
    · rw [List.getElem?_append_left (by rw [hlen]; exact hlt)] at h
      by_cases e : id = k
      · subst e
        rw [List.getElem?_set_self hid] at h
        cases h
      · rw [List.getElem?_set_ne e] at h
        exact .inl ⟨fun q => e q.symm, hlt, h⟩
    · rw [List.getElem?_append_right (by rw [hlen]; exact hge), hlen] at h
      rcases Nat.eq_zero_or_pos (k - H.length) with h0 | h0
      · rw [h0] at h
        exact .inr ⟨by omega, (Option.some.inj (Option.some.inj h)).symm⟩
      · rw [List.getElem?_eq_none (by simp; omega)] at h
        cases h
  have hnotfp : ∀ b, X.S FP H w.heap.size b → b ∉ FP id := fun b hb => hb.2.2 id r hr
  have hS : ∀ b, X.S FP H w.heap.size b → X.S (fun k => if k = H.length then fp' else FP k) (H.set id none ++ [some r']) w'.heap.size b ∧ w'.heap[b]? = w.heap[b]? := by
    intro b hb
    refine ⟨⟨hb.1, by have := hb.2.1; omega, fun k r2 hk => ?_⟩, hkeep b hb.2.1 (hnotfp b hb)⟩
    rcases hcase hk with ⟨hne, hlt, hk⟩ | ⟨rfl, rfl⟩
    · simp only [if_neg (show ¬ k = H.length by omega)]
      exact hb.2.2 k r2 hk
    · simp only [if_pos]
      intro hbf
      rcases (hfp b hbf).1 with h | h
      · exact hnotfp b hb h
      · have := hb.2.1; omega
  have hext : HExt H blk (H.set id none ++ [some r']) (fun k => if k = H.length then bc else blk k) := by
    intro k x hx
    have hlt : k < H.length := (List.getElem?_eq_some_iff.1 hx).1
    rw [List.getElem?_append_left (by rw [hlen]; exact hlt)]
    by_cases e : id = k
    · subst e
      exact .inl (by rw [List.getElem?_set_self hid])
    · rw [List.getElem?_set_ne e]
      cases x with
      | none => exact .inl hx
      | some y => exact .inr ⟨y, y, rfl, hx, rfl, rfl, by simp only [if_neg (show ¬ k = H.length by omega)]⟩
  refine ⟨⟨s.defers, s.size, ?_, fun k r2 hk => ?_, fun i j r1 r2 hi hj hij b hb hb' => ?_, fun t => (s.fr t).mono hS hext, s.ext.trans hext⟩, hS⟩
  · have k := s.keeps
    refine ⟨hos.trans k.os, htape.trans k.tape, hout.trans k.output, Nat.le_trans k.size hsize, fun b hb hm => ?_⟩
    have hbf : b ∉ FP id := fun h => by
      rcases ((s.rows id r hr).2 b h).1 with h | h
      · omega
      · exact hm h
    exact (hkeep b (by have := k.size; omega) hbf).trans (k.block b hb hm)
  · rcases hcase hk with ⟨hne, hlt, hk⟩ | ⟨rfl, rfl⟩
    · obtain ⟨h1, h2⟩ := s.rows k r2 hk
      simp only [if_neg (show ¬ k = H.length by omega)]
      exact ⟨h1.mono hS hext fun x hx => hkeep x (h2 x hx).2 (fun e => s.apart k id r2 r hk hr hne x hx e), fun b hb => ⟨(h2 b hb).1, by have := (h2 b hb).2; omega⟩⟩
    · simp only [if_pos]
      refine ⟨hrow hS hext, fun b hb => ⟨?_, (hfp b hb).2⟩⟩
      rcases (hfp b hb).1 with h | h
      · exact ((s.rows id r hr).2 b h).1
      · exact .inl (by have := s.keeps.size; omega)
  · rcases hcase hi with ⟨hne, hlt, hi1⟩ | ⟨ei, _⟩ <;> rcases hcase hj with ⟨hne', hlt', hj1⟩ | ⟨ej, _⟩
    · rw [if_neg (by omega)] at hb hb'
      exact s.apart i j r1 r2 hi1 hj1 hij b hb hb'
    · rw [if_neg (by omega)] at hb
      rw [if_pos ej] at hb'
      rcases (hfp b hb').1 with h | h
      · exact s.apart i id r1 r hi1 hr hne b hb h
      · have := ((s.rows i r1 hi1).2 b hb).2; omega
    · rw [if_pos ei] at hb
      rw [if_neg (by omega)] at hb'
      rcases (hfp b hb).1 with h | h
      · exact s.apart j id r2 r hj1 hr hne' b hb' h
      · have := ((s.rows j r2 hj1).2 b hb').2; omega
    · omega
def catE (n : Nat) (es g : Nat → Nat → AV) : Nat → Nat → AV := fun i j => bif Nat.blt i n then es i j else g (i - n) j
theorem catE_lt {n i j : Nat} {es g : Nat → Nat → AV} (h : i < n) : catE n es g i j = es i j := by
  unfold catE
  have : Nat.blt i n = true := Nat.ble_eq_true_of_le h
  rw [this]; rfl
theorem catE_ge {n i j : Nat} {es g : Nat → Nat → AV} (h : n ≤ i) : catE n es g i j = g (i - n) j := by
  unfold catE
  have : Nat.blt i n = false := by
    cases hb : Nat.blt i n with
    | false => rfl
    | true => have := Nat.le_of_ble_eq_true hb; omega
  rw [this]; rfl
theorem run_app_room {t e : Nat} {i : TypeInfo} (ht : P.underlying t = some (.slice e)) (hi : P.info? e = some i)
    (g sLen sCap : Nat) (cur : Array Value) (ty' : TypeId) (hg : RowAt w g cur ty')
    (ad : Addr) (m c : Nat) (news : List Value) (hl : news.length = m * i.size) (hnews : ∀ j u, news[j]? = some u → w.cell? (ad.add j) = some u) (h1 : ∀ u ∈ news, u.oneCell' = true)
    (hroom : sLen + m ≤ sCap) (hfit : sLen * i.size + news.length ≤ cur.size) :
    (Builtin.append_ #[t, t] ty #[.slice (some ⟨g, 0, none⟩) sLen sCap, .slice (some ad) m c]).run P w =
      .ok (.slice (some ⟨g, 0, none⟩) (sLen + m) sCap) (w.setRow g (cur.toList.take (sLen * i.size) ++ news ++ cur.toList.drop (sLen * i.size + news.length)).toArray) := by
  have hf := run_firstCells_some (P := P) w i.size m ad m c news hl hnews
  have hst := run_storeZ P g (sLen * i.size) ty' news 0 cur w hg (by simpa using hfit) h1
  simp only [Nat.add_zero] at hst
  simp [Builtin.append_, run_underlying ht, sizeOf, typeInfo, hi, Builtin.lenOf, hroom, hf, Addr.add_lit, hst]
theorem run_app_none {t e : Nat} {i : TypeInfo} (ht : P.underlying t = some (.slice e)) (hi : P.info? e = some i)
    (ad : Option Addr) (hi0 : ∀ b, ad = some b → ∃ g cur ty', b = ⟨g, 0, none⟩ ∧ RowAt w g cur ty') (sLen sCap c : Nat) (hroom : sLen ≤ sCap) (A : Option Addr) :
    (Builtin.append_ #[t, t] ty #[.slice ad sLen sCap, .slice A 0 c]).run P w = .ok (.slice ad sLen sCap) w := by
  cases A with
  | none => cases ad <;> simp [Builtin.append_, run_underlying ht, sizeOf, typeInfo, hi, Builtin.lenOf, hroom, Builtin.firstCells, storeCells]
  | some q =>
    have hf := run_firstCells_some (P := P) w i.size 0 q 0 c [] (by simp) (by simp)
    cases ad <;> simp [Builtin.append_, run_underlying ht, sizeOf, typeInfo, hi, Builtin.lenOf, hroom, hf, storeCells]
structure ApSrc (P : Program) (w : World) (t' : TypeId) (u : Value) (m sz : Nat) (U : Nat → Nat → Value) : Prop where
  ty : (∃ e, P.underlying t' = some (.slice e)) ∨ P.underlying t' = some .string
  len : ∀ W, (Builtin.lenOf u).run P W = .ok m W
  fc : ∀ W, (∀ b, b < w.heap.size → W.heap[b]? = w.heap[b]?) → (Builtin.firstCells sz m u).run P W = .ok (flat U m sz).toArray W
theorem run_apG_room {t t' e : Nat} {i : TypeInfo} {u : Value} {m : Nat} {U : Nat → Nat → Value} (ht : P.underlying t = some (.slice e)) (hi : P.info? e = some i)
    (g sLen sCap : Nat) (cur : Array Value) (ty' : TypeId) (hg : RowAt w g cur ty') (A : ApSrc P w t' u m i.size U) (h1 : ∀ u ∈ flat U m i.size, u.oneCell' = true)
    (hroom : sLen + m ≤ sCap) (hfit : sLen * i.size + (flat U m i.size).length ≤ cur.size) :
    (Builtin.append_ #[t, t'] ty #[.slice (some ⟨g, 0, none⟩) sLen sCap, u]).run P w =
      .ok (.slice (some ⟨g, 0, none⟩) (sLen + m) sCap) (w.setRow g (cur.toList.take (sLen * i.size) ++ flat U m i.size ++ cur.toList.drop (sLen * i.size + (flat U m i.size).length)).toArray) := by
  have hf := A.fc w fun _ _ => rfl
  have hl := A.len w
  have hst := run_storeZ P g (sLen * i.size) ty' (flat U m i.size) 0 cur w hg (by simpa using hfit) h1
  simp only [Nat.add_zero] at hst
  rcases A.ty with ⟨e', hd⟩ | hd
  · simp [Builtin.append_, run_underlying ht, run_underlying hd, sizeOf, typeInfo, hi, hl, hroom, hf, Addr.add_lit, hst]
  · simp [Builtin.append_, run_underlying ht, run_underlying hd, sizeOf, typeInfo, hi, hl, hroom, hf, Addr.add_lit, hst]
theorem run_apG_nil0 {t t' e : Nat} {i : TypeInfo} {u : Value} {U : Nat → Nat → Value} (ht : P.underlying t = some (.slice e)) (hi : P.info? e = some i) (A : ApSrc P w t' u 0 i.size U) (ad : Option Addr) :
    (Builtin.append_ #[t, t'] ty #[.slice ad 0 0, u]).run P w = .ok (.slice ad 0 0) w := by
  have hf := A.fc w fun _ _ => rfl
  have hl := A.len w
  have hfl : (flat U 0 i.size).toArray = #[] := by simp [flat]
  rw [hfl] at hf
  rcases A.ty with ⟨e', hd⟩ | hd <;> cases ad <;> simp [Builtin.append_, run_underlying ht, run_underlying hd, sizeOf, typeInfo, hi, hl, hf, storeCells]
theorem run_apG_grow {t t' e : Nat} {i : TypeInfo} {z u : Value} {m : Nat} {U : Nat → Nat → Value} (ht : P.underlying t = some (.slice e)) (hi : P.info? e = some i) (hz : i.zero = some z) (A : ApSrc P w t' u m i.size U)
    (ad : Option Addr) (sLen sCap : Nat) (olds : List Value) (hfo : (Builtin.firstCells i.size sLen (.slice ad sLen sCap)).run P w.drew = .ok olds.toArray w.drew)
    (hg : sCap < sLen + m) (h63 : ((sLen + m : Nat) : Int) ≤ 9223372036854775807) (hfit : Builtin.nextslicecap (sLen + m) sCap * i.bytes ≤ 281474976710656) :
    (Builtin.append_ #[t, t'] ty #[.slice ad sLen sCap, u]).run P w =
      .ok (.slice (some ⟨w.heap.size, 0, none⟩) (sLen + m) (grownCap w (sLen + m) sCap e))
        (w.drew.alloc (.cells (olds.toArray ++ (flat U m i.size).toArray ++ Builtin.zeroCells z.cells (grownCap w (sLen + m) sCap e - (sLen + m))) e)) := by
  have hn : ¬ (sLen + m ≤ sCap) := by omega
  have h63' : ¬ (9223372036854775807 < ((sLen : Int) + (m : Int))) := by omega
  have h48' : ¬ (281474976710656 < Builtin.nextslicecap (sLen + m) sCap * i.bytes) := by omega
  have hf := A.fc w.drew fun _ _ => rfl
  have hl := A.len w
  rcases A.ty with ⟨e', hd⟩ | hd
  · simp [Builtin.append_, run_underlying ht, run_underlying hd, sizeOf, typeInfo, zeroValue, hi, hz, hl, hn, h63', h48', Question.forced, hf, hfo, newRow, grownCap]
    congr 2
    apply Array.ext'
    simp [List.append_assoc]
  · simp [Builtin.append_, run_underlying ht, run_underlying hd, sizeOf, typeInfo, zeroValue, hi, hz, hl, hn, h63', h48', Question.forced, hf, hfo, newRow, grownCap]
    congr 2
    apply Array.ext'
    simp [List.append_assoc]
def strE (b : ByteArray) : Nat → Nat → AV := fun i _ => .i .u8 ((b.data.getD i 0).toNat : Int)
def strU (b : ByteArray) : Nat → Nat → Value := fun i _ => .int .u8 ((b.data.getD i 0).toNat : Int)
theorem apSrc_str {t' : TypeId} {b : ByteArray} (h : P.underlying t' = some .string) : ApSrc P w t' (.string b) b.size 1 (strU b) := by
  refine ⟨.inr h, fun W => rfl, fun W _ => ?_⟩
  have e : flat (strU b) b.size 1 = Lib.strCells b := by
    apply List.ext_getElem?
    intro k
    unfold flat Lib.strCells strU
    rw [Nat.mul_one, List.getElem?_map, List.getElem?_map]
    rcases Nat.lt_or_ge k b.size with q | q
    · have q' : k < b.data.toList.length := q
      rw [List.getElem?_range q, List.getElem?_eq_getElem q']
      simp only [Option.map_some, Nat.div_one]
      rw [Array.getD_eq_getD_getElem?, Array.getElem?_eq_getElem (by simpa using q')]
      simp
    · rw [List.getElem?_eq_none (by simpa using q), List.getElem?_eq_none (show b.data.toList.length ≤ k from q)]
      rfl
  rw [e]
  exact Lib.run_firstCells_string W 1 b
theorem apSrc_sl {t' e : TypeId} {m sz c : Nat} {A : Option Addr} {U : Nat → Nat → Value} (h : P.underlying t' = some (.slice e)) (hA : 0 < m → ∃ b o, A = some ⟨b, o, none⟩)
    (hcell : ∀ b o, A = some ⟨b, o, none⟩ → ∀ (j : Nat) (v : Value), (flat U m sz)[j]? = some v → w.cell? ((⟨b, o, none⟩ : Addr).add j) = some v) : ApSrc P w t' (.slice A m c) m sz U := by
  refine ⟨.inl ⟨e, h⟩, fun W => rfl, fun W hW => ?_⟩
  have hfl : (flat U m sz).length = m * sz := flat_len _ _ _
  rcases Nat.eq_zero_or_pos m with h0 | h0
  · subst h0
    have hnil : flat U 0 sz = [] := by simp [flat]
    rw [hnil]
    cases A with
    | none => rfl
    | some q => exact run_firstCells_some W sz 0 q 0 c [] (by simp) (by simp)
  · obtain ⟨b, o, rfl⟩ := hA h0
    refine run_firstCells_some W sz m ⟨b, o, none⟩ m c (flat U m sz) hfl fun j v hj => ?_
    have hc := hcell b o rfl j v hj
    rw [add_mk] at hc ⊢
    have hb : b < w.heap.size := by
      rcases Nat.lt_or_ge b w.heap.size with q | q
      · exact q
      · simp [World.cell?, Array.getElem?_eq_none q] at hc
    rw [World.cell?_of_block (w := w) (hW b hb)]
    exact hc
theorem StB.app {id n m t t' e : Nat} {te : TI} {zs : List Value} {r : Row} {u v : Value} {g : Nat → Nat → AV} {U : Nat → Nat → Value} (s : StB nt X f H blk FP a w) (hu : P.underlying t = some (.slice e)) (hT : TIok P e te) (hz : te.zero = some zs)
    (hv : Conc w (X.S FP H w.heap.size) blk H (.row id n) v) (hr : H[id]? = some (some r)) (hrs : r.sz = te.sz) (hA : ApSrc P w t' u m te.sz U) (hU : ∀ i j, i < m → j < te.sz → (U i j).oneCell' = true ∧ Conc w (X.S FP H w.heap.size) blk H (g i j) (U i j)) (hs0 : 0 < te.sz)
    (hzl : zs.length = te.sz) (hz1 : (zs.map cv).all AV.one1 = true) (hle : (n + m) * te.bytes ≤ 140737488355328) (hm : n + m ≤ maxLen) :
    ∃ v' w' blk' FP', (Builtin.append_ #[t, t'] ty #[v, u]).run P w = .ok v' w' ∧
      StB nt X f (H.set id none ++ [some ⟨te.sz, n + m, catE n r.es g, .arr⟩]) blk' FP' a w' ∧
      Conc w' (X.S FP' (H.set id none ++ [some ⟨te.sz, n + m, catE n r.es g, .arr⟩]) w'.heap.size) blk' (H.set id none ++ [some ⟨te.sz, n + m, catE n r.es g, .arr⟩]) (.row H.length (n + m)) v' := by
  obtain ⟨i, z, hi, hzz, hzs⟩ := hT.zero zs hz
  obtain ⟨i1, hi1, hisz, hiby⟩ := hT.info
  rw [hi] at hi1
  cases hi1
  have hzsz : z.cells.size = te.sz := by rw [← hzl, ← hzs]; simp
  have hzone : ∀ k (hk : k < z.cells.size), (z.cells[k]).oneCell' = true := by
    intro k hk
    have hkz : k < zs.length := by omega
    have e1 : z.cells[k] = zs[k] := by
      have : z.cells.toList[k]? = zs[k]? := by rw [hzs]
      simp only [Array.getElem?_toList, Array.getElem?_eq_getElem hk, List.getElem?_eq_getElem hkz] at this
      exact Option.some.inj this
    rw [e1]
    exact (conc_cv (w := w) (S := fun _ => True) (blk := blk) (H := H) zs[k]).one1 (List.all_eq_true.1 hz1 _ (List.mem_map.2 ⟨_, List.getElem_mem hkz, rfl⟩))
  have hfl : (flat U m te.sz).length = m * te.sz := flat_len _ _ _
  have hflat1 : ∀ v ∈ flat U m te.sz, v.oneCell' = true := flat_all fun i j hi hj => (hU i j hi hj).1
  have hrl : (H.set id none).length = H.length := by simp
  have hnew : (H.set id none ++ [some (⟨te.sz, n + m, catE n r.es g, .arr⟩ : Row)])[H.length]? = some (some ⟨te.sz, n + m, catE n r.es g, .arr⟩) := by
    rw [List.getElem?_append_right (by rw [hrl]; exact Nat.le_refl _), hrl, Nat.sub_self]; rfl
  have built : ∀ (cur : Array Value) (F : Nat → Nat → List Nat) (w' : World) (bc : BC) (ty' : TypeId) (cur' : Array Value), 0 < bc.c → n + m ≤ bc.c → RowAt w' bc.b cur' ty' → cur'.size = bc.c * te.sz → (∀ u ∈ cur', u.oneCell' = true) →
      (∀ i j, i < n → j < te.sz → ∃ u, cur[i * te.sz + j]? = some u ∧ Own w (X.S FP H w.heap.size) blk H (r.es i j) u (F i j)) →
      (∀ i j, i < n → j < te.sz → ∀ x ∈ F i j, x ∈ FP id ∧ x ≠ (blk id).b) →
      (∀ i j i' j', i < n → j < te.sz → i' < n → j' < te.sz → (i ≠ i' ∨ j ≠ j') → ∀ x ∈ F i j, x ∉ F i' j') →
      (∀ q, q < n * te.sz → cur'[q]? = cur[q]?) → (∀ q, q < m * te.sz → cur'[n * te.sz + q]? = (flat U m te.sz)[q]?) → (bc.b = (blk id).b ∨ w.heap.size ≤ bc.b) →
      (∀ b, b < w.heap.size → b ≠ (blk id).b → w'.heap[b]? = w.heap[b]?) →
      ∀ (hS : ∀ b, X.S FP H w.heap.size b → X.S (fun k => if k = H.length then bc.b :: FP id else FP k) (H.set id none ++ [some ⟨te.sz, n + m, catE n r.es g, .arr⟩]) w'.heap.size b ∧ w'.heap[b]? = w.heap[b]?),
      HExt H blk (H.set id none ++ [some ⟨te.sz, n + m, catE n r.es g, .arr⟩]) (fun k => if k = H.length then bc else blk k) → RowOk w' (X.S (fun k => if k = H.length then bc.b :: FP id else FP k) (H.set id none ++ [some ⟨te.sz, n + m, catE n r.es g, .arr⟩]) w'.heap.size) (fun k => if k = H.length then bc else blk k) (H.set id none ++ [some ⟨te.sz, n + m, catE n r.es g, .arr⟩]) (bc.b :: FP id) bc ⟨te.sz, n + m, catE n r.es g, .arr⟩ := by
    intro cur F w' bc ty' cur' h0 hle hb hsz hall hold hF1 hF2 hc1 hc2 hbc hkeep hS hext
    refine .inr ⟨h0, hle, rfl, by simp, ty', cur', fun i j => if i < n then F i j else [], hb, hsz, hall, fun p q hp hq => ?_, fun p q hp hq x hx => ?_, fun p q p' q' hp hq hp' hq' hne x hx hx' => ?_⟩
    · dsimp only at hp hq ⊢
      by_cases hpn : p < n
      · obtain ⟨u, hu, ho⟩ := hold p q hpn hq
        have e : cur'[p * te.sz + q]? = some u := (hc1 _ (at_lt hpn hq)).trans hu
        refine ⟨u, e, hall u (Array.mem_of_getElem? e), ?_⟩
        rw [if_pos hpn, catE_lt hpn]
        exact ho.mono hS hext fun x hx => hkeep x (((s.rows id r hr).2 x (hF1 p q hpn hq x hx).1).2) (hF1 p q hpn hq x hx).2
      · have hpm : p - n < m := by omega
        obtain ⟨ho, hcu⟩ := hU (p - n) q hpm hq
        have e : cur'[p * te.sz + q]? = some (U (p - n) q) := by
          have hidx : p * te.sz + q = n * te.sz + ((p - n) * te.sz + q) := by
            rw [← Nat.add_assoc, ← Nat.add_mul]
            congr 2
            omega
          rw [hidx, hc2 _ (at_lt hpm hq)]
          exact flat_at hpm hq
        refine ⟨_, e, ho, ?_⟩
        rw [if_neg hpn, catE_ge (by omega)]
        exact .plain (hcu.mono hS hext)
    · dsimp only at hp hq hx
      split at hx
      · rename_i hpn
        obtain ⟨h1, h2⟩ := hF1 p q hpn hq x hx
        refine ⟨List.mem_cons_of_mem _ h1, ?_⟩
        rcases hbc with h | h
        · rw [h]; exact h2
        · have := ((s.rows id r hr).2 x h1).2; omega
      · cases hx
    · dsimp only at hp hq hp' hq' hx hx'
      split at hx
      · rename_i h1
        split at hx'
        · rename_i h2
          exact hF2 p q p' q' h1 hq h2 hq' hne x hx hx'
        · cases hx'
      · cases hx
  have grow : ∀ (ad : Option Addr) (cap : Nat) (cur : Array Value) (F : Nat → Nat → List Nat), n * te.sz ≤ cur.size →
      (0 < n → ∃ b, ad = some ⟨b, 0, none⟩ ∧ ∀ j v, j < n * te.sz → cur[j]? = some v → w.cell? ⟨b, 0 + j, none⟩ = some v) → (∀ q v, q < n * te.sz → cur[q]? = some v → v.oneCell' = true) → (ad = none → cap = 0) → n ≤ cap →
      (∀ i j, i < n → j < te.sz → ∃ u, cur[i * te.sz + j]? = some u ∧ Own w (X.S FP H w.heap.size) blk H (r.es i j) u (F i j)) →
      (∀ i j, i < n → j < te.sz → ∀ x ∈ F i j, x ∈ FP id ∧ x ≠ (blk id).b) →
      (∀ i j i' j', i < n → j < te.sz → i' < n → j' < te.sz → (i ≠ i' ∨ j ≠ j') → ∀ x ∈ F i j, x ∉ F i' j') → cap < n + m →
      ∃ v' w' blk' FP', (Builtin.append_ #[t, t'] ty #[.slice ad n cap, u]).run P w = .ok v' w' ∧
        StB nt X f (H.set id none ++ [some ⟨te.sz, n + m, catE n r.es g, .arr⟩]) blk' FP' a w' ∧
        Conc w' (X.S FP' (H.set id none ++ [some ⟨te.sz, n + m, catE n r.es g, .arr⟩]) w'.heap.size) blk' (H.set id none ++ [some ⟨te.sz, n + m, catE n r.es g, .arr⟩]) (.row H.length (n + m)) v' := by
    intro ad cap cur F hcl had hcone hcap0 hnc hold hF1 hF2 hg
    have holdl : (cur.toList.take (n * te.sz)).length = n * te.sz := by simp; omega
    have hm0 : 0 < n + m := by omega
    let K := grownCap w (n + m) cap e
    have hK : n + m ≤ K := grownCap_ge w _ _ e
    have hKm : K ≤ maxLen := grownCap_le_maxLen w _ _ e hm
    let cur' : Array Value := (cur.toList.take (n * te.sz)).toArray ++ (flat U m te.sz).toArray ++ Builtin.zeroCells z.cells (K - (n + m))
    have hrun : (Builtin.append_ #[t, t'] ty #[.slice ad n cap, u]).run P w = .ok (.slice (some ⟨w.heap.size, 0, none⟩) (n + m) K) (w.drew.alloc (.cells cur' e (0, 0))) := by
      unfold maxLen at hm
      have hfo : (Builtin.firstCells i.size n (.slice ad n cap)).run P w.drew = .ok (cur.toList.take (n * te.sz)).toArray w.drew := by
        cases ad with
        | none =>
          have hn0 : n = 0 := by
            rcases Nat.eq_zero_or_pos n with h | h
            · exact h
            · obtain ⟨b, hb, _⟩ := had h; cases hb
          subst hn0
          rw [Nat.zero_mul, List.take_zero]
          exact run_firstCells_none _ _ _ _ _
        | some q =>
          refine run_firstCells_some (P := P) w.drew i.size n q n cap (cur.toList.take (n * te.sz)) (by rw [holdl, hisz]) (fun j v hj => ?_)
          have hlt : j < n * te.sz := by rw [← holdl]; exact (List.getElem?_eq_some_iff.1 hj).1
          rw [List.getElem?_take_of_lt hlt] at hj
          obtain ⟨b, hb, hbc⟩ := had (by
            rcases Nat.eq_zero_or_pos n with h | h
            · subst h; omega
            · exact h)
          cases hb
          rw [add_mk]
          exact hbc j v hlt (by simpa using hj)
      have := run_apG_grow (P := P) (w := w) (ty := ty) hu hi hzz (by rw [hisz]; exact hA) ad n cap (cur.toList.take (n * te.sz)) hfo (by omega) (by omega) (growslice_fits (by omega) (by rw [hiby]; exact hle))
      rw [hisz] at this
      exact this
    have hzc : (Builtin.zeroCells z.cells (K - (n + m))).size = (K - (n + m)) * te.sz := by rw [size_zeroCells, hzsz]
    have hc1 : ∀ q, q < n * te.sz → cur'[q]? = cur[q]? := by
      intro q hq
      show ((cur.toList.take (n * te.sz)).toArray ++ (flat U m te.sz).toArray ++ Builtin.zeroCells z.cells (K - (n + m)))[q]? = _
      rw [Array.append_assoc, Array.getElem?_append_left (by simp; omega), List.getElem?_toArray, List.getElem?_take_of_lt hq]
      simp
    have hc2 : ∀ q, q < m * te.sz → cur'[n * te.sz + q]? = (flat U m te.sz)[q]? := by
      intro q hq
      show ((cur.toList.take (n * te.sz)).toArray ++ (flat U m te.sz).toArray ++ Builtin.zeroCells z.cells (K - (n + m)))[n * te.sz + q]? = _
      rw [Array.append_assoc, Array.getElem?_append_right (by simp; omega)]
      simp only [List.size_toArray, holdl]
      rw [Array.getElem?_append_left (by simp [hfl]; omega), List.getElem?_toArray]
      congr 1
      omega
    have hcs : cur'.size = K * te.sz := by
      show ((cur.toList.take (n * te.sz)).toArray ++ (flat U m te.sz).toArray ++ Builtin.zeroCells z.cells (K - (n + m))).size = _
      simp only [Array.size_append, List.size_toArray, holdl, hfl, hzc]
      rw [← Nat.add_mul, ← Nat.add_mul]
      congr 1
      omega
    have hall : ∀ u ∈ cur', u.oneCell' = true := by
      intro u hu
      simp only [cur', Array.mem_append, List.mem_toArray] at hu
      rcases hu with (hu | hu) | hu
      · obtain ⟨k, hk⟩ := List.getElem?_of_mem hu
        have hlt : k < n * te.sz := by rw [← holdl]; exact (List.getElem?_eq_some_iff.1 hk).1
        rw [List.getElem?_take_of_lt hlt] at hk
        exact hcone k u hlt (by simpa using hk)
      · exact hflat1 u hu
      · obtain ⟨k, hk⟩ := Array.getElem?_of_mem hu
        have hlt : k < (K - (n + m)) * z.cells.size := by
          have := (Array.getElem?_eq_some_iff.1 hk).1
          rw [hzc] at this
          rw [hzsz]; exact this
        have hz0 : 0 < z.cells.size := by omega
        have hmod := Nat.mod_lt k hz0
        have hg : z.cells[k % z.cells.size]! = z.cells[k % z.cells.size] := getElem!_pos z.cells _ hmod
        have : u = z.cells[k % z.cells.size]! := by
          simp [Builtin.zeroCells, hlt] at hk
          exact hk.symm
        rw [this, hg]
        exact hzone _ hmod
    have hheap : ∀ b, b < w.heap.size → (w.drew.alloc (.cells cur' e (0, 0))).heap[b]? = w.heap[b]? := fun b hb => Below.heap_alloc w.drew _ b hb
    have hsize : (w.drew.alloc (.cells cur' e (0, 0))).heap.size = w.heap.size + 1 := by rw [World.size_alloc]; rfl
    obtain ⟨s', hS⟩ := s.repl (r' := ⟨te.sz, n + m, catE n r.es g, .arr⟩) (bc := ⟨w.heap.size, K⟩) (fp' := w.heap.size :: FP id) (w' := w.drew.alloc (.cells cur' e (0, 0))) hr (fun b hb _ => hheap b hb) (by omega) rfl rfl rfl
      (fun b hb => by
        rcases List.mem_cons.1 hb with rfl | hb
        · exact ⟨.inr (Nat.le_refl _), by omega⟩
        · exact ⟨.inl hb, by have := ((s.rows id r hr).2 b hb).2; omega⟩)
      (built cur F _ ⟨w.heap.size, K⟩ e cur' (by show 0 < K; omega) hK (rowAt0 (heap_alloc_new w.drew _)) hcs hall hold hF1 hF2 hc1 hc2 (.inr (Nat.le_refl _)) (fun b hb _ => hheap b hb))
    refine ⟨_, _, _, _, hrun, s', ?_⟩
    have := Conc.row (w := w.drew.alloc (.cells cur' e (0, 0))) (S := X.S (fun k => if k = H.length then w.heap.size :: FP id else FP k) (H.set id none ++ [some ⟨te.sz, n + m, catE n r.es g, .arr⟩]) (w.drew.alloc (.cells cur' e (0, 0))).heap.size)
      (blk := fun k => if k = H.length then ⟨w.heap.size, K⟩ else blk k) (H := H.set id none ++ [some ⟨te.sz, n + m, catE n r.es g, .arr⟩]) (id := H.length) (n := n + m) ⟨te.sz, n + m, catE n r.es g, .arr⟩ hnew (Nat.le_refl _) (by simpa using hK) (by simp; omega) (by simpa using hKm)
    simpa using this
  rcases inv_row hr hv with ⟨rfl, hn, hle', h0, hcm⟩ | ⟨ad, rfl, rfl, h0, h1⟩
  · rcases (s.rows id r hr).1 with hrow | ⟨_, _, _, hbm, ty', cur, F, hb, hcur, hall, hcells, hF1, hF2⟩
    · omega
    rw [hrs] at hcur hcells hF1 hF2
    have hcl : n * te.sz ≤ cur.size := by rw [hcur]; exact Nat.mul_le_mul_right _ (by omega)
    have hold : ∀ i j, i < n → j < te.sz → ∃ u, cur[i * te.sz + j]? = some u ∧ Own w (X.S FP H w.heap.size) blk H (r.es i j) u (F i j) := fun i j hi hj => by
      obtain ⟨u, hu, _, ho⟩ := hcells i j (by omega) hj
      exact ⟨u, hu, ho⟩
    have hF1' : ∀ i j, i < n → j < te.sz → ∀ x ∈ F i j, x ∈ FP id ∧ x ≠ (blk id).b := fun i j hi hj => hF1 i j (by omega) hj
    have hF2' : ∀ i j i' j', i < n → j < te.sz → i' < n → j' < te.sz → (i ≠ i' ∨ j ≠ j') → ∀ x ∈ F i j, x ∉ F i' j' := fun i j i' j' a1 a2 a3 a4 => hF2 i j i' j' (by omega) a2 (by omega) a4
    by_cases hroom : n + m ≤ (blk id).c
    · have hfit : n * te.sz + m * te.sz ≤ cur.size := by rw [hcur, ← Nat.add_mul]; exact Nat.mul_le_mul_right _ hroom
      let cur' : Array Value := (cur.toList.take (n * te.sz) ++ flat U m te.sz ++ cur.toList.drop (n * te.sz + (flat U m te.sz).length)).toArray
      have hmin : (cur.toList.take (n * te.sz)).length = n * te.sz := by simp; omega
      have hc1 : ∀ q, q < n * te.sz → cur'[q]? = cur[q]? := by
        intro q hq
        show ((cur.toList.take (n * te.sz) ++ flat U m te.sz ++ cur.toList.drop (n * te.sz + (flat U m te.sz).length)).toArray)[q]? = _
        rw [List.getElem?_toArray, List.append_assoc, List.getElem?_append_left (by omega), List.getElem?_take_of_lt hq]
        simp
      have hc2 : ∀ q, q < m * te.sz → cur'[n * te.sz + q]? = (flat U m te.sz)[q]? := by
        intro q hq
        show ((cur.toList.take (n * te.sz) ++ flat U m te.sz ++ cur.toList.drop (n * te.sz + (flat U m te.sz).length)).toArray)[n * te.sz + q]? = _
        rw [List.getElem?_toArray, List.append_assoc, List.getElem?_append_right (by omega), hmin, List.getElem?_append_left (by omega)]
        congr 1
        omega
      have hcs : cur'.size = (blk id).c * te.sz := by
        show ((cur.toList.take (n * te.sz) ++ flat U m te.sz ++ cur.toList.drop (n * te.sz + (flat U m te.sz).length)).toArray).size = _
        simp only [List.size_toArray, List.length_append, List.length_take, List.length_drop, Array.length_toList, hfl]
        rw [← hcur]
        omega
      have hall' : ∀ u ∈ cur', u.oneCell' = true := by
        intro u hu
        simp only [cur', List.mem_toArray, List.mem_append] at hu
        rcases hu with (hu | hu) | hu
        · exact hall u (by simpa using List.mem_of_mem_take hu)
        · exact hflat1 u hu
        · exact hall u (by simpa using List.mem_of_mem_drop hu)
      have hrun : (Builtin.append_ #[t, t'] ty #[.slice (some ⟨(blk id).b, 0, none⟩) n (blk id).c, u]).run P w = .ok (.slice (some ⟨(blk id).b, 0, none⟩) (n + m) (blk id).c) (w.setRow (blk id).b cur') := by
        have := run_apG_room (P := P) (w := w) (ty := ty) hu hi (blk id).b n (blk id).c cur ty' hb (by rw [hisz]; exact hA) (by rw [hisz]; exact hflat1) hroom (by rw [hisz, hfl]; exact hfit)
        rw [hisz] at this
        exact this
      have hkeep : ∀ b, b < w.heap.size → b ≠ (blk id).b → (w.setRow (blk id).b cur').heap[b]? = w.heap[b]? := fun b _ hne => setRow_other w (blk id).b b cur' hne
      obtain ⟨s', hS⟩ := s.repl (r' := ⟨te.sz, n + m, catE n r.es g, .arr⟩) (bc := blk id) (fp' := (blk id).b :: FP id) (w' := w.setRow (blk id).b cur') hr (fun b hb' hbf => hkeep b hb' (fun e => hbf (e ▸ hbm))) (by rw [setRow_size]; exact Nat.le_refl _) (by rfl) (by rfl) (by rfl)
        (fun b hb' => by
          rw [setRow_size]
          rcases List.mem_cons.1 hb' with rfl | hb'
          · exact ⟨.inl hbm, ((s.rows id r hr).2 _ hbm).2⟩
          · exact ⟨.inl hb', ((s.rows id r hr).2 b hb').2⟩)
        (built cur F _ (blk id) ty' cur' h0 hroom (hb.setRow (by rw [hcs, hcur])) hcs hall' hold hF1' hF2' hc1 hc2 (.inl rfl) hkeep)
      refine ⟨_, _, _, _, hrun, s', ?_⟩
      have := Conc.row (w := w.setRow (blk id).b cur') (S := X.S (fun k => if k = H.length then (blk id).b :: FP id else FP k) (H.set id none ++ [some ⟨te.sz, n + m, catE n r.es g, .arr⟩]) (w.setRow (blk id).b cur').heap.size)
        (blk := fun k => if k = H.length then blk id else blk k) (H := H.set id none ++ [some ⟨te.sz, n + m, catE n r.es g, .arr⟩]) (id := H.length) (n := n + m) ⟨te.sz, n + m, catE n r.es g, .arr⟩ hnew (Nat.le_refl _) (by simpa using hroom) (by simp; omega) (by simpa using hcm)
      simpa using this
    · refine grow _ _ cur F hcl (fun _ => ⟨_, rfl, fun j v hj hv => ?_⟩) (fun q v hq hv => hall v (Array.mem_of_getElem? hv)) (fun h => by cases h) (by omega) hold hF1' hF2' (by omega)
      rw [RowAt.cell hb, Nat.zero_add]
      exact hv
  · rcases Nat.eq_zero_or_pos m with hm0 | hm0
    · subst hm0
      obtain ⟨s', hS⟩ := s.repl (r' := ⟨te.sz, 0 + 0, catE 0 r.es g, .arr⟩) (bc := ⟨0, 0⟩) (fp' := []) (w' := w) hr (fun b _ _ => rfl) (Nat.le_refl _) rfl rfl rfl (fun b hb => by cases hb)
        (fun hS hext => .inl ⟨rfl, rfl, .inl ⟨rfl, rfl⟩⟩)
      refine ⟨.slice ad 0 0, w, _, _, ?_, s', .row0 _ hnew rfl (by simp) _⟩
      exact run_apG_nil0 hu hi (by rw [hisz]; exact hA) ad
    · exact grow ad 0 #[] (fun _ _ => []) (by omega) (fun h => by omega) (fun q v hq => by omega) (fun _ => rfl) (Nat.le_refl _) (fun i j hi => by omega) (fun i j hi => by omega) (fun i j i' j' hi => by omega) (by omega)
theorem StB.resay {id : Nat} {r r1 : Row} (s : StB nt X f H blk FP a w) (hr : H[id]? = some (some r)) (h1 : r1.sz = r.sz) (h2 : r1.cap = r.cap)
    (hrow : RowOk w (X.S FP (H.set id (some r1)) w.heap.size) blk (H.set id (some r1)) (FP id) (blk id) r1) : StB nt X f (H.set id (some r1)) blk FP a w := by
  have hS : ∀ b, X.S FP H w.heap.size b → X.S FP (H.set id (some r1)) w.heap.size b ∧ w.heap[b]? = w.heap[b]? := fun b hb => ⟨(S_set X FP hr b).2 hb, rfl⟩
  have hext := HExt.set (H := H) blk hr h1 h2
  refine ⟨s.defers, s.size, s.keeps, fun k r' hk => ?_, fun i j r1 r2 hi hj hij => ?_, fun t => (s.fr t).mono hS hext, s.ext.trans hext⟩
  · rcases set_cases hr hk with ⟨rfl, rfl⟩ | ⟨hne, hk⟩
    · exact ⟨hrow, (s.rows k r hr).2⟩
    · obtain ⟨h1, h2⟩ := s.rows k r' hk
      exact ⟨h1.mono hS hext fun _ _ => rfl, h2⟩
  · rcases set_cases hr hi with ⟨hi1, _⟩ | ⟨hne, hi'⟩ <;> rcases set_cases hr hj with ⟨hj1, _⟩ | ⟨hne', hj'⟩
    · omega
    · subst hi1; exact s.apart i j r r2 hr hj' hij
    · subst hj1; exact s.apart i j r1 r hi' hr hij
    · exact s.apart i j r1 r2 hi' hj' hij
theorem StB.same {id : Nat} {r : Row} (s : StB nt X f H blk FP a w) (hr : H[id]? = some (some r)) (es : Nat → Nat → AV) (k : RK) (hk : k.isMp = r.k.isMp) (hkm : r.k.isMp = false) (he : ∀ i j, i < r.cap → j < r.sz → es i j = r.es i j) :
    StB nt X f (H.set id (some ⟨r.sz, r.cap, es, k⟩)) blk FP a w := by
  refine s.resay hr rfl rfl ?_
  have hS : ∀ b, X.S FP H w.heap.size b → X.S FP (H.set id (some ⟨r.sz, r.cap, es, k⟩)) w.heap.size b ∧ w.heap[b]? = w.heap[b]? := fun b hb => ⟨(S_set X FP hr b).2 hb, rfl⟩
  have hext := HExt.set (H := H) (r1 := ⟨r.sz, r.cap, es, k⟩) blk hr rfl rfl
  rcases ((s.rows id r hr).1.mono hS hext fun _ _ => rfl) with ⟨h1, h2, h3⟩ | ⟨h0, hle, hmp, hb, ty, cur, F, e1, e2, hall, e3, e4, e5⟩
  · refine .inl ⟨h1, h2, .inl ⟨hk.trans hkm, ?_⟩⟩
    rcases h3 with ⟨_, h⟩ | e | ⟨ak, fm, sts, e, _⟩
    · exact h
    · rw [e] at hkm; cases hkm
    · rw [e] at hkm; cases hkm
  · refine .inr ⟨h0, hle, hk.trans hmp, hb, ty, cur, F, e1, e2, hall, fun i j hi hj => ?_, e4, e5⟩
    obtain ⟨u, hu, ho, hc⟩ := e3 i j hi hj
    exact ⟨u, hu, ho, by show Own _ _ _ _ (es i j) u _; rw [he i j hi hj]; exact hc⟩
def segE (o k : Nat) (g es : Nat → Nat → AV) : Nat → Nat → AV := fun i j => bif Nat.ble o i && Nat.blt i (o + k) then g (i - o) j else es i j
theorem segE_in {o k i j : Nat} {g es : Nat → Nat → AV} (h1 : o ≤ i) (h2 : i < o + k) : segE o k g es i j = g (i - o) j := by
  unfold segE
  have e1 : Nat.ble o i = true := Nat.ble_eq_true_of_le h1
  have e2 : Nat.blt i (o + k) = true := Nat.ble_eq_true_of_le h2
  rw [e1, e2]; rfl
theorem segE_out {o k i j : Nat} {g es : Nat → Nat → AV} (h : ¬ (o ≤ i ∧ i < o + k)) : segE o k g es i j = es i j := by
  unfold segE
  have : (Nat.ble o i && Nat.blt i (o + k)) = false := by
    cases hb : (Nat.ble o i && Nat.blt i (o + k)) with
    | false => rfl
    | true =>
      rw [Bool.and_eq_true] at hb
      exact absurd ⟨Nat.le_of_ble_eq_true hb.1, Nat.le_of_ble_eq_true hb.2⟩ h
  rw [this]; rfl
theorem StB.seg {id : Nat} {r : Row} (s : StB nt X f H blk FP a w) (hr : H[id]? = some (some r)) (o k : Nat) (hok : o + k ≤ r.cap) (hk0 : 0 < k) (U : Nat → Nat → Value) (g : Nat → Nat → AV)
    (hU : ∀ i j, i < k → j < r.sz → (U i j).oneCell' = true ∧ Conc w (X.S FP H w.heap.size) blk H (g i j) (U i j)) :
    ∃ (cur : Array Value) (ty' : TypeId), RowAt w (blk id).b cur ty' ∧ o * r.sz + (flat U k r.sz).length ≤ cur.size ∧
      StB nt X f (H.set id (some ⟨r.sz, r.cap, segE o k g r.es, r.k⟩)) blk FP a (w.setRow (blk id).b (cur.toList.take (o * r.sz) ++ flat U k r.sz ++ cur.toList.drop (o * r.sz + (flat U k r.sz).length)).toArray) := by
  rcases (s.rows id r hr).1 with hrow | ⟨h0, hle, hmp, hbm, ty', cur, F, hb, hcur, hall, hcells, hF1, hF2⟩
  · omega
  have hfl : (flat U k r.sz).length = k * r.sz := flat_len _ _ _
  have hfit : o * r.sz + k * r.sz ≤ cur.size := by rw [hcur, ← Nat.add_mul]; exact Nat.mul_le_mul_right _ (by omega)
  have hmin : (cur.toList.take (o * r.sz)).length = o * r.sz := by simp; omega
  refine ⟨cur, ty', hb, by rw [hfl]; exact hfit, ?_⟩
  refine s.row hr (segE o k g r.es) _ h0 ?_ ?_ (fun i j => if o ≤ i ∧ i < o + k then [] else F i j) (fun i j hi hj => ?_) (fun i j hi hj x hx => ?_) (fun i j i' j' hi hj hi' hj' hne x hx hx' => ?_)
  · simp only [List.size_toArray, List.length_append, List.length_take, List.length_drop, Array.length_toList, hfl]
    rw [← hcur]
    omega
  · intro u hu
    simp only [List.mem_toArray, List.mem_append] at hu
    rcases hu with (hu | hu) | hu
    · exact hall u (by simpa using List.mem_of_mem_take hu)
    · exact flat_all (p := fun u => u.oneCell' = true) (fun i j hi hj => (hU i j hi hj).1) u hu
    · exact hall u (by simpa using List.mem_of_mem_drop hu)
  · by_cases hin : o ≤ i ∧ i < o + k
    · obtain ⟨ho, hcu⟩ := hU (i - o) j (by omega) hj
      refine ⟨U (i - o) j, ?_, ho, ?_⟩
      · have hidx : i * r.sz + j = o * r.sz + ((i - o) * r.sz + j) := by
          rw [← Nat.add_assoc, ← Nat.add_mul]
          congr 2
          omega
        have hlt := at_lt (show i - o < k by omega) hj
        rw [List.getElem?_toArray, List.append_assoc, hidx, List.getElem?_append_right (by omega), hmin, List.getElem?_append_left (by omega), show o * r.sz + ((i - o) * r.sz + j) - o * r.sz = (i - o) * r.sz + j by omega]
        exact flat_at (by omega) hj
      · rw [if_pos hin, segE_in hin.1 hin.2]
        exact .plain hcu
    · obtain ⟨u, hu, ho, hcu⟩ := hcells i j hi hj
      refine ⟨u, ?_, ho, by rw [if_neg hin, segE_out hin]; exact hcu⟩
      rw [List.getElem?_toArray, List.append_assoc]
      rcases Nat.lt_or_ge i o with h | h
      · have hlt : i * r.sz + j < o * r.sz := at_lt h hj
        rw [List.getElem?_append_left (by omega), List.getElem?_take_of_lt hlt]
        simpa using hu
      · have hge : (o + k) * r.sz ≤ i * r.sz := Nat.mul_le_mul_right _ (by omega)
        rw [Nat.add_mul] at hge
        rw [List.getElem?_append_right (by omega), hmin, List.getElem?_append_right (by omega), List.getElem?_drop, hfl, show o * r.sz + k * r.sz + (i * r.sz + j - o * r.sz - k * r.sz) = i * r.sz + j by omega]
        simpa using hu
  · split at hx
    · cases hx
    · exact hF1 i j hi hj x hx
  · split at hx
    · cases hx
    · split at hx'
      · cases hx'
      · exact hF2 i j i' j' hi hj hi' hj' hne x hx hx'
theorem StB.pushMap (s : StB nt X f H blk FP a w) (ak : Bool) {o : Obj} (hm : MapOk (w.alloc o) w.heap.size ak (fun _ => 0) []) :
    StB nt X f (H ++ [some ⟨0, 0, fun _ _ => .any, .mp ak (fun _ => 0) []⟩]) (fun id => if id = H.length then ⟨w.heap.size, 0⟩ else blk id) (fun id => if id = H.length then [w.heap.size] else FP id) a (w.alloc o) := by
  have hsz : (w.alloc o).heap.size = w.heap.size + 1 := by simp
  have hkeep : ∀ b, X.S FP H w.heap.size b → X.S (fun id => if id = H.length then [w.heap.size] else FP id) (H ++ [some ⟨0, 0, fun _ _ => .any, .mp ak (fun _ => 0) []⟩]) (w.alloc o).heap.size b ∧ (w.alloc o).heap[b]? = w.heap[b]? := fun b hb =>
    ⟨S_push X FP H _ [w.heap.size] (by omega) (by simp) b hb, Below.heap_alloc _ _ _ hb.2.1⟩
  have hext := HExt.push H blk (some ⟨0, 0, fun _ _ => .any, .mp ak (fun _ => 0) []⟩) ⟨w.heap.size, 0⟩
  refine ⟨s.defers, s.size, ?_, fun id r' hr => ?_, fun i j r1 r2 hi hj hij b hb hb' => ?_, fun t => (s.fr t).mono hkeep hext, s.ext.trans hext⟩
  · have k := s.keeps
    exact ⟨k.os, k.tape, k.output, by have := k.size; omega, fun b hb hm => (Below.heap_alloc _ _ _ (by have := k.size; omega)).trans (k.block b hb hm)⟩
  · rcases old_or_new hr with ⟨hlt, hr⟩ | ⟨rfl, rfl⟩
    · obtain ⟨h1, h2⟩ := s.rows id r' hr
      simp only [if_neg (show ¬ id = H.length by omega)]
      exact ⟨h1.mono hkeep hext fun x hx => Below.heap_alloc _ _ _ (h2 x hx).2, fun b hb => ⟨(h2 b hb).1, by have := (h2 b hb).2; omega⟩⟩
    · simp only [if_pos]
      refine ⟨.inl ⟨rfl, rfl, .inr (.inr ⟨ak, _, _, rfl, rfl, hm⟩)⟩, fun b hb => ?_⟩
      obtain rfl : b = w.heap.size := by simpa using hb
      exact ⟨.inl s.keeps.size, by omega⟩
  · try simp only at hb hb'
    rcases old_or_new hi with ⟨hlt, hi1⟩ | ⟨hi1, _⟩ <;> rcases old_or_new hj with ⟨hlt', hj1⟩ | ⟨hj1, _⟩
    · rw [if_neg (by omega)] at hb hb'
      exact s.apart i j r1 r2 hi1 hj1 hij b hb hb'
    · rw [if_neg (by omega)] at hb
      rw [if_pos hj1] at hb'
      have := ((s.rows i r1 hi1).2 b hb).2
      obtain rfl : b = w.heap.size := by simpa using hb'
      omega
    · rw [if_pos hi1] at hb
      rw [if_neg (by omega)] at hb'
      have := ((s.rows j r2 hj1).2 b hb').2
      obtain rfl : b = w.heap.size := by simpa using hb
      omega
    · omega
theorem map_row (s : StB nt X f H blk FP a w) {id : Nat} {r : Row} {ak : Bool} {fm : List Int → Int} {sts : List (Int × List Int)} (hr : H[id]? = some (some r)) (hk : r.k = .mp ak fm sts) :
    r.cap = 0 ∧ (blk id).c = 0 ∧ FP id = [(blk id).b] ∧ MapOk w (blk id).b ak fm sts := by
  rcases (s.rows id r hr).1 with ⟨h1, h2, ⟨h3, _⟩ | h3 | ⟨ak', f', sts', e, h3, h4⟩⟩ | ⟨_, _, h, _⟩
  · rw [hk] at h3; cases h3
  · rw [hk] at h3; cases h3
  · rw [hk] at e; cases e
    exact ⟨h1, h2, h3, h4⟩
  · rw [hk] at h; cases h
theorem StB.setMap {id : Nat} {r : Row} {ak : Bool} {fm fm' : List Int → Int} {sts sts' : List (Int × List Int)} {o : Obj} (s : StB nt X f H blk FP a w) (hr : H[id]? = some (some r)) (hk : r.k = .mp ak fm sts)
    (hm : MapOk { w with heap := w.heap.setIfInBounds (blk id).b o } (blk id).b ak fm' sts') :
    StB nt X f (H.set id (some ⟨r.sz, r.cap, r.es, .mp ak fm' sts'⟩)) blk FP a { w with heap := w.heap.setIfInBounds (blk id).b o } := by
  obtain ⟨hcap, hc, hfp, _⟩ := map_row s hr hk
  have hblk : (blk id).b ∈ FP id := by rw [hfp]; simp
  have hother : ∀ b, b ≠ (blk id).b → ({ w with heap := w.heap.setIfInBounds (blk id).b o } : World).heap[b]? = w.heap[b]? := fun b hb => by
    show (w.heap.setIfInBounds (blk id).b o)[b]? = _
    rw [Array.getElem?_setIfInBounds_ne (fun e => hb e.symm)]
  have hsz : ({ w with heap := w.heap.setIfInBounds (blk id).b o } : World).heap.size = w.heap.size := by simp
  have hkeep : ∀ b, X.S FP H w.heap.size b → X.S FP (H.set id (some ⟨r.sz, r.cap, r.es, .mp ak fm' sts'⟩)) ({ w with heap := w.heap.setIfInBounds (blk id).b o } : World).heap.size b ∧ ({ w with heap := w.heap.setIfInBounds (blk id).b o } : World).heap[b]? = w.heap[b]? := fun b hb =>
    ⟨by rw [hsz]; exact (S_set X FP hr b).2 hb, hother b (fun e => hb.2.2 id r hr (e ▸ hblk))⟩
  have hext := HExt.set (H := H) (r1 := ⟨r.sz, r.cap, r.es, .mp ak fm' sts'⟩) blk hr rfl rfl
  refine ⟨s.defers, s.size, ?_, fun k r' hk' => ?_, fun i j r1 r2 hi hj hij => ?_, fun t => (s.fr t).mono hkeep hext, s.ext.trans hext⟩
  · have k := s.keeps
    refine ⟨k.os, k.tape, k.output, by rw [hsz]; exact k.size, fun b hb' hm => ?_⟩
    rw [hother b (fun e => by
      subst e
      rcases ((s.rows id r hr).2 _ hblk).1 with h | h
      · omega
      · exact hm h)]
    exact k.block b hb' hm
  · rw [hsz] at hkeep ⊢
    rcases set_cases hr hk' with ⟨rfl, rfl⟩ | ⟨hne, hk'⟩
    · exact ⟨.inl ⟨hcap, hc, .inr (.inr ⟨ak, _, _, rfl, hfp, hm⟩)⟩, (s.rows k r hr).2⟩
    · obtain ⟨h1, h2⟩ := s.rows k r' hk'
      exact ⟨h1.mono hkeep hext fun x hx => hother x (fun e => s.apart id k r r' hr hk' (fun e => hne e.symm) _ hblk (e ▸ hx)), h2⟩
  · rcases set_cases hr hi with ⟨hi1, _⟩ | ⟨hne, hi'⟩ <;> rcases set_cases hr hj with ⟨hj1, _⟩ | ⟨hne', hj'⟩
    · omega
    · subst hi1; exact s.apart i j r r2 hr hj' hij
    · subst hj1; exact s.apart i j r1 r hi' hr hij
    · exact s.apart i j r1 r2 hi' hj' hij
end
end
end Go.Proofs.Ytdeledeopippfaa
