/- Texts for VReadPathP. -/
import Derived.Shelf.Small.Strs
import Derived.Test.YtfaadafgbhmlfaaDoorProg
import Derived.Test.YtfaadafgbhmlfaaDoorVt17
namespace Go.Proofs.YtfaadafgbhmlfaaDoor
open Go Go.RowKit
set_option linter.unusedVariables false
set_option linter.unusedSimpArgs false
section
abbrev byI (b : ByteArray) (k : Nat) : Int := (((b.data.getD k 0).toNat : Nat) : Int)
def isLt (c : Int) : Prop := 97 ≤ c ∧ c ≤ 122
def isDg (c : Int) : Prop := 48 ≤ c ∧ c ≤ 57
def wdP (s : ByteArray) (k : Nat) : Prop := isLt (byI s k) ∨ isDg (byI s k) ∨ (byI s k = 45 ∧ (isLt (byI s (k + 1)) ∨ isDg (byI s (k + 1))))
def nbP (s : ByteArray) (k : Nat) : Prop := isDg (byI s k) ∨ (byI s k = 46 ∧ isDg (byI s (k + 1)))
open Classical in
noncomputable def endF (P : Nat → Prop) : Nat → Nat → Nat
  | 0, k => k
  | m + 1, k => if P k then endF P m (k + 1) else k
open Classical in
theorem endF_step {P : Nat → Prop} {n k : Nat} (hk : k < n) (h : P k) : endF P (n - k) k = endF P (n - (k + 1)) (k + 1) := by
  have e : n - k = (n - (k + 1)) + 1 := by omega
  rw [e]
  exact if_pos h
open Classical in
theorem endF_stop {P : Nat → Prop} {n k : Nat} (h : k < n → ¬ P k) : endF P (n - k) k = k := by
  by_cases hk : k < n
  · have e : n - k = (n - (k + 1)) + 1 := by omega
    rw [e]
    exact if_neg (h hk)
  · rw [show n - k = 0 by omega]
    rfl
open Classical in
theorem endF_ge (P : Nat → Prop) : ∀ m k, k ≤ endF P m k
  | 0, k => Nat.le_refl _
  | m + 1, k => by
    show k ≤ if P k then endF P m (k + 1) else k
    split
    · exact Nat.le_of_succ_le (endF_ge P m (k + 1))
    · exact Nat.le_refl _
open Classical in
theorem endF_le (P : Nat → Prop) : ∀ m k, endF P m k ≤ k + m
  | 0, k => Nat.le_refl _
  | m + 1, k => by
    show (if P k then endF P m (k + 1) else k) ≤ _
    split
    · have := endF_le P m (k + 1); omega
    · omega
theorem endF_gt {P : Nat → Prop} {n k : Nat} (hk : k < n) (h : P k) : k < endF P (n - k) k := by
  rw [endF_step hk h]
  exact endF_ge P _ _
theorem endF_len {P : Nat → Prop} {n k : Nat} (hk : k ≤ n) : endF P (n - k) k ≤ n := by
  have := endF_le P (n - k) k
  omega
noncomputable def skW (s : ByteArray) (k : Nat) (line : Int) : Nat × Int :=
  if hk : k < s.size then
    if byI s k = 10 then skW s (k + 1) (line + 1)
    else if byI s k = 32 then skW s (k + 1) line
    else if h : byI s k = 47 ∧ byI s (k + 1) = 47 then skW s (endF (fun i => ¬ byI s i = 10) (s.size - k) k) line
    else (k, line)
  else (k, line)
termination_by s.size - k
decreasing_by
  · omega
  · omega
  · have := endF_gt (P := fun i => ¬ byI s i = 10) hk (by rw [h.1]; decide)
    omega
theorem skW_nl {s : ByteArray} {k : Nat} {line : Int} (hk : k < s.size) (h : byI s k = 10) : skW s k line = skW s (k + 1) (line + 1) := by
  rw [skW, dif_pos hk, if_pos h]
theorem skW_sp {s : ByteArray} {k : Nat} {line : Int} (hk : k < s.size) (h : byI s k = 32) : skW s k line = skW s (k + 1) line := by
  rw [skW, dif_pos hk, if_neg (by rw [h]; decide), if_pos h]
theorem skW_co {s : ByteArray} {k : Nat} {line : Int} (hk : k < s.size) (h : byI s k = 47) (h1 : byI s (k + 1) = 47) : skW s k line = skW s (endF (fun i => ¬ byI s i = 10) (s.size - k) k) line := by
  rw [skW, dif_pos hk, if_neg (by rw [h]; decide), if_neg (by rw [h]; decide), dif_pos ⟨h, h1⟩]
theorem skW_no {s : ByteArray} {k : Nat} {line : Int} (h : k < s.size → ¬ byI s k = 10 ∧ ¬ byI s k = 32 ∧ ¬ (byI s k = 47 ∧ byI s (k + 1) = 47)) : skW s k line = (k, line) := by
  rw [skW]
  by_cases hk : k < s.size
  · obtain ⟨h1, h2, h3⟩ := h hk
    rw [dif_pos hk, if_neg h1, if_neg h2, dif_neg h3]
  · rw [dif_neg hk]
theorem skW_ge (s : ByteArray) : ∀ (m k : Nat) (line : Int), s.size - k ≤ m → k ≤ (skW s k line).1 ∧ (k ≤ s.size → (skW s k line).1 ≤ s.size) ∧ line ≤ (skW s k line).2 ∧ (skW s k line).2 + k ≤ line + (skW s k line).1 := by
  intro m
  induction m with
  | zero =>
    intro k line h
    rw [skW_no (fun hk => by omega)]
    exact ⟨Nat.le_refl _, fun h => h, Int.le_refl _, by omega⟩
  | succ m ih =>
    intro k line h
    by_cases hk : k < s.size
    · by_cases h1 : byI s k = 10
      · rw [skW_nl hk h1]
        obtain ⟨a, b, c, d⟩ := ih (k + 1) (line + 1) (by omega)
        exact ⟨by omega, fun _ => b hk, by omega, by omega⟩
      by_cases h2 : byI s k = 32
      · rw [skW_sp hk h2]
        obtain ⟨a, b, c, d⟩ := ih (k + 1) line (by omega)
        exact ⟨by omega, fun _ => b hk, by omega, by omega⟩
      by_cases h3 : byI s k = 47 ∧ byI s (k + 1) = 47
      · rw [skW_co hk h3.1 h3.2]
        have g1 := endF_gt (P := fun i => ¬ byI s i = 10) hk (by rw [h3.1]; decide)
        have g2 := endF_len (P := fun i => ¬ byI s i = 10) (Nat.le_of_lt hk)
        obtain ⟨a, b, c, d⟩ := ih (endF (fun i => ¬ byI s i = 10) (s.size - k) k) line (by omega)
        exact ⟨by omega, fun _ => b g2, by omega, by omega⟩
      · rw [skW_no (fun _ => ⟨h1, h2, h3⟩)]
        exact ⟨Nat.le_refl _, fun h => h, Int.le_refl _, by omega⟩
    · rw [skW_no (fun q => absurd q hk)]
      exact ⟨Nat.le_refl _, fun h => h, Int.le_refl _, by omega⟩
structure Tok where
  kind : Int
  text : ByteArray
  line : Int
  deriving Inhabited
def tokC (t : Tok) : List AV := [.i .i64 t.kind, .s t.text, .i .i64 t.line]
def sgL : List Int := [123, 125, 40, 41, 60, 62, 44, 59, 58, 61, 46, 47, 64, 95]
open Classical in
noncomputable def nxt (s : ByteArray) (k : Nat) : Int × Nat :=
  if isLt (byI s k) then (1, endF (wdP s) (s.size - k) k)
  else if isDg (byI s k) then (2, endF (nbP s) (s.size - k) k)
  else if byI s k = 45 ∧ byI s (k + 1) = 62 then (3, k + 2)
  else if byI s k ∈ sgL then (3, k + 1)
  else (0, 0)
theorem byI_out {s : ByteArray} {k : Nat} (h : s.size ≤ k) : byI s k = 0 := by
  unfold byI
  have : s.data.getD k 0 = 0 := by
    rw [Array.getD_eq_getD_getElem?, Array.getElem?_eq_none (by exact h)]
    rfl
  rw [this]
  rfl
theorem nxt_rng {s : ByteArray} {k : Nat} (hk : k < s.size) (h : ¬ (nxt s k).1 = 0) : k < (nxt s k).2 ∧ (nxt s k).2 ≤ s.size ∧ 1 ≤ (nxt s k).1 ∧ (nxt s k).1 ≤ 3 := by
  unfold nxt at h ⊢
  by_cases h1 : isLt (byI s k)
  · rw [if_pos h1] at h ⊢
    exact ⟨endF_gt hk (.inl h1), endF_len (Nat.le_of_lt hk), (show (1 : Int) ≤ 1 by decide), (show (1 : Int) ≤ 3 by decide)⟩
  rw [if_neg h1] at h ⊢
  by_cases h2 : isDg (byI s k)
  · rw [if_pos h2] at h ⊢
    exact ⟨endF_gt hk (.inl h2), endF_len (Nat.le_of_lt hk), (show (1 : Int) ≤ 2 by decide), (show (2 : Int) ≤ 3 by decide)⟩
  rw [if_neg h2] at h ⊢
  by_cases h3 : byI s k = 45 ∧ byI s (k + 1) = 62
  · rw [if_pos h3] at h ⊢
    refine ⟨by show k < k + 2; omega, ?_, (show (1 : Int) ≤ 3 by decide), (show (3 : Int) ≤ 3 by decide)⟩
    show k + 2 ≤ s.size
    apply Nat.le_of_not_lt
    intro hc
    have := byI_out (s := s) (k := k + 1) (by omega)
    rw [this] at h3
    exact absurd h3.2 (by decide)
  rw [if_neg h3] at h ⊢
  by_cases h4 : byI s k ∈ sgL
  · rw [if_pos h4] at h ⊢
    exact ⟨Nat.lt_succ_self k, hk, (show (1 : Int) ≤ 3 by decide), (show (3 : Int) ≤ 3 by decide)⟩
  · rw [if_neg h4] at h
    exact absurd rfl h
inductive Lx where
  | ok (l : List Tok)
  | err (line code : Int)
open Classical in
noncomputable def lexG (s : ByteArray) (acc : List Tok) (k : Nat) (line : Int) : Lx :=
  if hk : k < s.size then
    if h : (nxt s k).1 = 0 then .err line 6
    else if acc.length = 4000 then .err line 4
    else lexG s (acc ++ [⟨(nxt s k).1, s.extract k (nxt s k).2, line⟩]) (skW s (nxt s k).2 line).1 (skW s (nxt s k).2 line).2
  else .ok (acc ++ [⟨4, ⟨#[]⟩, line⟩])
termination_by s.size - k
decreasing_by
  have h1 := nxt_rng hk h
  have h2 := skW_ge s _ (nxt s k).2 line (Nat.le_refl _)
  omega
noncomputable def lexF (s : ByteArray) : Lx := if s.size > 30000 then .err 0 4 else lexG s [] (skW s 0 1).1 (skW s 0 1).2
end
section
open Go Go.Shelf
def lays137_ren : Go.Shelf.Ren := ⟨fun | 137 => 43 | 217 => 49 | 266 => 54 | n => n, fun | 9 => 9 | 5 => 5 | 3 => 3 | n => n, fun | n => n⟩
theorem lays137 : Lays.n137 Tryd.prog lays137_ren := {
  mixed := by kernel_rfl,
  f137 := Tryd.func43.trans (congrArg some (by kernel_rfl)),
  f217 := Tryd.func49.trans (congrArg some (by kernel_rfl)),
  f266 := Tryd.func54.trans (congrArg some (by kernel_rfl)),
  t3 := Tryd.underlying3,
  a3 := Tryd.isAgg3,
  z3 := Tryd.sizeOf3,
  v3 := Tryd.zeroValue3,
  t5 := Tryd.underlying5,
  a5 := Tryd.isAgg5,
  z5 := Tryd.sizeOf5,
  v5 := Tryd.zeroValue5,
  t9 := Tryd.underlying9,
  a9 := Tryd.isAgg9,
  z9 := Tryd.sizeOf9,
  v9 := Tryd.zeroValue9 }
end
theorem concL_1 {w : World} {S : Nat → Prop} {blk : Nat → BC} {H : Hp} {x : AV} {us : List Value} (h : ConcL w S blk H [x] us) : ∃ u, us = [u] ∧ Conc w S blk H x u := by
  obtain ⟨hl, h⟩ := h
  match us, hl with
  | [u], _ => exact ⟨u, rfl, h 0 x u rfl rfl⟩
theorem concL_2 {w : World} {S : Nat → Prop} {blk : Nat → BC} {H : Hp} {x y : AV} {us : List Value} (h : ConcL w S blk H [x, y] us) : ∃ u v, us = [u, v] ∧ Conc w S blk H x u ∧ Conc w S blk H y v := by
  obtain ⟨hl, h⟩ := h
  match us, hl with
  | [u, v], _ => exact ⟨u, v, rfl, h 0 x u rfl rfl, h 1 y v rfl rfl⟩
theorem conc_i {w : World} {S : Nat → Prop} {blk : Nat → BC} {H : Hp} {z : Int} (h1 : -9223372036854775808 ≤ z) (h2 : z < 9223372036854775808) : Conc w S blk H (.i .i64 z) (.int .i64 z) := .i (by
  simp only [Lit.wf, IntKind.min, IntKind.max, IntKind.signed, IntKind.bits, Bool.and_eq_true, decide_eq_true_eq, if_true, Bool.false_eq_true, if_false]
  omega)
section
open Go Go.RowKit Go.Shelf
theorem indexByte_lt : ∀ (l : List UInt8) (c : UInt8), Lib.indexByte l c < l.length
  | [], c => by simp [Lib.indexByte]
  | b :: l, c => by
    have := indexByte_lt l c
    unfold Lib.indexByte
    rw [List.length_cons]
    split
    · omega
    · split <;> omega
theorem indexByte_iff : ∀ (l : List UInt8) (c : UInt8), 0 ≤ Lib.indexByte l c ↔ c ∈ l
  | [], c => by simp [Lib.indexByte]
  | b :: l, c => by
    have ih := indexByte_iff l c
    have hg := Lib.indexByte_ge l c
    unfold Lib.indexByte
    rw [List.mem_cons, ← ih]
    by_cases h : b = c
    · subst h
      simp
    · have h1 : (b == c) = false := by simpa using h
      have h2 : ¬ c = b := fun e => h e.symm
      rw [h1]
      simp only [Bool.false_eq_true, if_false, h2, false_or]
      split
      · rename_i q
        have : Lib.indexByte l c = -1 := by simpa using q
        omega
      · rename_i q
        have : ¬ Lib.indexByte l c = -1 := by simpa using q
        omega
theorem indexByte_ok (s : ByteArray) (c : Nat) : Ret env.P 43 [.s s, .i .u8 (c : Int)] (fun r => r = .i .i64 (Lib.indexByte s.data.toList c.toUInt8)) := .mk fun w S us hS hc => by
  obtain ⟨u, v, rfl, h1, h2⟩ := concL_2 hc
  obtain ⟨rfl, hs⟩ := inv_s h1
  obtain ⟨rfl, _⟩ := inv_i h2
  have hlt := indexByte_lt s.data.toList c.toUInt8
  have hge := Lib.indexByte_ge s.data.toList c.toUInt8
  have hlen : s.data.toList.length = s.size := rfl
  have hm : maxLen ≤ 9223372036854775807 := by decide
  refine (Any.strings_IndexByte lays137 s c w).mono fun e w' ⟨he, hw⟩ => ⟨_, _, he, rfl, conc_i (by omega) (by omega), hw ▸ Below.refl _ _⟩
end
section
variable {E : Env} {P : Program} {nt : Nat} {X : Ctx} {f : Fr} {H : Hp} {ty : TypeId}
def dimsK (n0 : Nat) (H H' : Hp) : List Nat → Prop
  | [] => True
  | id :: r => (bif Nat.ble n0 id then True else match H[id]?, H'[id]? with
    | some (some x), some (some y) => y.sz = x.sz ∧ y.cap = x.cap ∧ blankK y.k = blankK x.k
    | some none, some none => True
    | _, _ => False) ∧ dimsK n0 H H' r
theorem dimsK_at {n0 : Nat} {H H' : Hp} : ∀ {M : List Nat}, dimsK n0 H H' M → ∀ i, i < n0 → i ∈ M → (H'[i]?).map (fun r => r.map Go.Proofs.YtfaadafgbhmlfaaDoor.blank) = (H[i]?).map (fun r => r.map Go.Proofs.YtfaadafgbhmlfaaDoor.blank)
  | [], _, i, _, hi => by cases hi
  | id :: r, h, i, hlt, hi => by
    rcases List.mem_cons.1 hi with rfl | hi
    · have h1 := h.1
      have hb : Nat.ble n0 i = false := by
        cases hb : Nat.ble n0 i with
        | false => rfl
        | true => have := Nat.le_of_ble_eq_true hb; omega
      rw [hb, cond_false] at h1
      split at h1
      · rename_i x y e1 e2
        rw [e1, e2]
        simp only [Option.map_some, Go.Proofs.YtfaadafgbhmlfaaDoor.blank, h1.1, h1.2.1, h1.2.2]
      · rename_i e1 e2
        rw [e1, e2]
      · cases h1
    · exact dimsK_at h.2 i hlt hi
def efC (E : Env) (nt : Nat) (M : List Nat) (n0 : Nat) (o : Oper) (f : Fr) (H : Hp) (K : AV → Hp → Prop) : Prop :=
  match o.op with
  | .call ⟨.value fx, args, _⟩ => (match o.guard with
    | some _ => False
    | none => (match o.dst with
      | some d => bif Nat.blt d nt then clM E f H (fun i => M.contains i || Nat.ble n0 i) fx args.toList (fun v H' => dimsK n0 H H' M ∧ K v H') else False
      | none => clM E f H (fun i => M.contains i || Nat.ble n0 i) fx args.toList (fun _ H' => dimsK n0 H H' M ∧ K .any H')))
  | _ => efK E nt M n0 o f H K
theorem hid_call {M : List Nat} {n0 : Nat} {H2 : Hp} (hn : n0 ≤ H.length) (h1 : dimsK n0 H H2 M) (h2 : ∀ i, i < H.length → (M.contains i || Nat.ble n0 i) = false → H2[i]? = H[i]?) : hidM M 0 (H2.take n0) = hidM M 0 (H.take n0) := by
  apply List.ext_getElem?
  intro i
  rw [hidM_at, hidM_at, List.getElem?_take, List.getElem?_take]
  by_cases hi : i < n0
  · rw [if_pos hi, if_pos hi]
    simp only [Nat.zero_add]
    cases hM : M.contains i with
    | true =>
      simp only [cond_true]
      exact dimsK_at h1 i hi (List.contains_iff_mem.1 hM)
    | false =>
      rw [h2 i (by omega) (by
        rw [hM, Bool.false_or]
        cases hb : Nat.ble n0 i with
        | false => rfl
        | true => have := Nat.le_of_ble_eq_true hb; omega)]
  · rw [if_neg hi, if_neg hi]
theorem efC_po {M : List Nat} {n0 : Nat} {o : Oper} {K : AV → Hp → Prop} (hn : n0 ≤ H.length) (h : efC E nt M n0 o f H K) : o.guard = none ∧ PO E.P nt X o f H fun f' H' => ∃ v, f' = pushD o.dst v f ∧ hidM M 0 (H'.take n0) = hidM M 0 (H.take n0) ∧ K v H' := by
  unfold efC at h
  split at h
  · rename_i fx args tys hop
    split at h
    · cases h
    rename_i hg
    refine ⟨hg, ?_⟩
    obtain ⟨d?, op, ty, pos, after, gd⟩ := o
    dsimp only at h hop hg
    subst hop
    split at h
    · rename_i d
      cases hb : Nat.blt d nt with
      | false => rw [hb] at h; cases h
      | true =>
        rw [hb, cond_true] at h
        rintro a w ⟨blk, FP, s⟩ K' Q' hK
        refine clM_run h s _ tys (by simp) K' Q' fun r u w' H2 blk2 FP2 hk hsame s2 hc => ?_
        exact hK _ _ _ _ ⟨r, rfl, hid_call hn hk.1 hsame, hk.2⟩ ⟨blk2, FP2, s2.put (Nat.le_of_ble_eq_true hb) hc⟩
    · rintro a w ⟨blk, FP, s⟩ K' Q' hK
      refine clM_run h s _ tys (by simp) K' Q' fun r u w' H2 blk2 FP2 hk hsame s2 hc => ?_
      exact hK _ _ _ _ ⟨.any, rfl, hid_call hn hk.1 hsame, hk.2⟩ ⟨blk2, FP2, s2⟩
  · exact ef_po hn h
def dsC (E : Env) (nt : Nat) (ops : Array Oper) (M : List Nat) (H0 : Hp) (Q : Fr → Hp → Prop) (n : Nat) : List Nat → Fr → Hp → Prop :=
  Nat.rec (motive := fun _ => List Nat → Fr → Hp → Prop) (fun _ f H => Q f H) (fun _ ih D f H => match firstRd E ops M H0.length f D 0 ops.toList with
    | some (i, o) => (match o.dst with
      | some d => bif Nat.blt d nt then
          rdK E (hidM M 0 H0) (restr (looksL ops o) f) o.op fun v => frc v fun v => bif low H0.length v then ih (i :: D) ((d, v) :: f) H else False else False
      | none => False)
    | none => brsK D (fun i o => efC E nt M H0.length o f H fun v H' => pushK o.dst v f fun f => ih (i :: D) f H') ops.toList 0 none) n
theorem dsC_succ {ops : Array Oper} {M : List Nat} {H0 : Hp} {Q : Fr → Hp → Prop} {n : Nat} {D : List Nat} {f : Fr} {H : Hp} : dsC E nt ops M H0 Q (n + 1) D f H = match firstRd E ops M H0.length f D 0 ops.toList with
    | some (i, o) => (match o.dst with
      | some d => bif Nat.blt d nt then
          rdK E (hidM M 0 H0) (restr (looksL ops o) f) o.op fun v => frc v fun v => bif low H0.length v then dsC E nt ops M H0 Q n (i :: D) ((d, v) :: f) H else False else False
      | none => False)
    | none => brsK D (fun i o => efC E nt M H0.length o f H fun v H' => pushK o.dst v f fun f => dsC E nt ops M H0 Q n (i :: D) f H') ops.toList 0 none := rfl
theorem dsC_ok {ops : Array Oper} {M : List Nat} {H0 : Hp} {Q : Exit → Fr → Hp → Prop} : ∀ (n : Nat) (D : List Nat) (f : Fr) (H : Hp), hidM M 0 (H.take H0.length) = hidM M 0 H0 → dsC E nt ops M H0 (Q .normal) n D f H → DR E.P nt X ops M H0 Q n D f H
  | 0, D, f, H, _, h => h
  | n + 1, D, f, H, hold, h => by
    have hlen : H0.length ≤ H.length := by
      have := congrArg List.length hold
      rw [hidM_len, hidM_len, List.length_take] at this
      omega
    rw [dsC_succ] at h
    split at h
    · rename_i i o hfi
      obtain ⟨_, h1, h2, h3, h6, h4, h5⟩ := firstRd_ok hfi
      split at h
      · rename_i d hd
        rw [looksL_eq] at h
        cases hb : Nat.blt d nt with
        | false => rw [hb] at h; cases h
        | true =>
          rw [hb, cond_true] at h
          obtain ⟨v, hpj, hk⟩ := pj_of (nt := nt) (X := X) (ops := ops) (ty := o.type) h
          rw [frc_eq] at hk
          cases hl : low H0.length v with
          | false => rw [hl] at hk; cases hk
          | true =>
            rw [hl, cond_true] at hk
            exact .inl ⟨i, o, d, v, by simpa using h1, h2, hd, Nat.le_of_ble_eq_true hb, h3, h6, hl, h5 d hd, .inl ⟨h4, hpj⟩, dsC_ok n _ _ _ hold hk⟩
      · cases h
    · refine .inr fun i o ho hD hw => ?_
      have hm := brsK_mem h (Nat.zero_le i) (by simpa using ho) hD hw
      obtain ⟨hg, hpo⟩ := efC_po (X := X) hlen hm
      refine pl_op hg (hpo.mono ?_)
      rintro f' H' ⟨v, rfl, ho1, hk⟩
      rw [pushK_eq] at hk
      refine pl_nil ⟨rfl, ?_, ho1.trans hold, dsC_ok n _ _ _ (ho1.trans hold) hk⟩
      cases hd : o.dst with
      | none => exact ext_rfl
      | some d => exact ext_cons
theorem dt_goC {id : Nat} {ops : Array Oper} {Q : Exit → Fr → Hp → Prop} (M : List Nat) (h : drawOkS ops = true ∧ dsC E nt ops M H (Q .normal) ops.toList.length [] f H) : DT E nt X id ops f H Q := ⟨by
  obtain ⟨hok, h⟩ := h
  have := pw_drawS (id := id) (l := ops.toList) (Q := Q) (X := X) M E.mixed (by simpa using hok) (by simpa using dsC_ok (Q := Q) (X := X) _ _ _ _ (by rw [List.take_length]) h)
  simpa using this⟩
end
section
def owL {α : Type} [Inhabited α] (sz : Nat) (c : α → List AV) (l : List α) : AV := .ow sz l.length (elE c l)
def rowL {α : Type} [Inhabited α] (sz : Nat) (c : α → List AV) (l : List α) : Row := ⟨sz, l.length, elE c l, .arr⟩
class Shr (d : outParam Nat) {α : Type} (cO : α → List AV) (c : outParam (α → List AV)) : Prop where
  h : ∀ (H : Hp) (k : Nat) (a : α), WkL ((cO a).map (shrC (k + d) H)) (c a)
theorem pl1_getD {cs : List AV} (h : cs.all pl1 = true) (j : Nat) : pl1 (cs.getD j .any) = true := by
  rw [List.getD_eq_getElem?_getD]
  cases hj : cs[j]? with
  | none => rfl
  | some c => exact List.all_eq_true.1 h c (List.mem_of_getElem? hj)
theorem rowPl_L {α : Type} [Inhabited α] {sz : Nat} {c : α → List AV} {l : List α} (h : ∀ a, (c a).all pl1 = true) : RowPl (rowL sz c l) := ⟨fun i j _ _ => pl1_getD (h _) j⟩
def idfB : AV → Bool
  | .any | .i .. | .b _ | .kb _ | .s _ | .nils | .nilp | .st _ => true
  | _ => false
theorem idfB_ok {x : AV} (h : idfB x = true) : x.idfO := by cases x <;> first | exact trivial | cases h
class HoldC {α : Type} (c : α → List AV) : Prop where
  h : ∀ a j, ((c a).getD j .any).idfO
theorem holdC_plain {α : Type} {c : α → List AV} (h : ∀ a, (c a).all idfB = true) : HoldC c := ⟨fun a j => by
  rw [List.getD_eq_getElem?_getD]
  cases hj : (c a)[j]? with
  | none => exact trivial
  | some x => exact idfB_ok (List.all_eq_true.1 (h a) x (List.mem_of_getElem? hj))⟩
class FreeC {α : Type} (c : α → List AV) : Prop where
  h : ∀ a j, noS ((c a).getD j .any)
theorem freeC_plain {α : Type} {c : α → List AV} (h : ∀ a, (c a).all noS1 = true) : FreeC c := ⟨fun a j => by
  rw [List.getD_eq_getElem?_getD]
  cases hj : (c a)[j]? with
  | none => exact trivial
  | some x => exact noS1_ok (List.all_eq_true.1 (h a) x (List.mem_of_getElem? hj))⟩
theorem Conc.nil {w : World} {S : Nat → Prop} {blk blk' : Nat → BC} {x : AV} {u : Value} (h : Conc w S blk [] x u) : Conc w S blk' [] x u := h.mono (fun b hb => ⟨hb, rfl⟩) fun id x hx => by simp at hx
theorem RetM.wk {P : Program} {g : FuncId} {av bs : List AV} {post : AV → Hp → Prop} (h : WkL av bs) (r : RetM P g [] bs post) : RetM P g [] av post := .mk fun w S blk FP us hR hG hc => by
  refine r.h w S blk FP us hR hG ⟨by rw [hc.1, h.1], fun j c u hj hu => ?_⟩
  have hjl : j < av.length := by rw [h.1]; exact (List.getElem?_eq_some_iff.1 hj).1
  have e := List.getElem?_eq_getElem hjl
  exact ((h.2 j _ _ e hj).c w S u (hc.2 j _ u e hu).nil).nil
theorem shr_plain {α : Type} {c : α → List AV} (h : ∀ a, (c a).all stay = true) : Shr 0 c c := ⟨fun H k a => by
  have : (c a).map (shrC (k + 0) H) = c a := by
    conv => rhs; rw [← List.map_id (c a)]
    exact List.map_congr_left fun x hx => stay_eq (List.all_eq_true.1 (h a) x hx)
  rw [this]
  exact ⟨rfl, fun j x y hx hy => by rw [hx] at hy; cases hy; exact .refl _⟩⟩
theorem WkL.getD {xs ys : List AV} (h : WkL xs ys) (j : Nat) : Wk (xs.getD j .any) (ys.getD j .any) := by
  rw [List.getD_eq_getElem?_getD, List.getD_eq_getElem?_getD]
  cases hx : xs[j]? with
  | none =>
    have : ys[j]? = none := by
      rw [List.getElem?_eq_none_iff] at hx ⊢
      rw [← h.1]; exact hx
    rw [this]
    exact .refl _
  | some x =>
    have hj : j < ys.length := by rw [← h.1]; exact (List.getElem?_eq_some_iff.1 hx).1
    rw [List.getElem?_eq_getElem hj]
    exact h.2 j _ _ hx (List.getElem?_eq_getElem hj)
theorem shr_any {k : Nat} {H : Hp} : shrC k H .any = .any := by cases k <;> rfl
theorem shr_L {α : Type} [Inhabited α] {d sz k n : Nat} {H : Hp} {cO c : α → List AV} {l : List α} [h : Shr d cO c] (hn : n = l.length) : Wk (.sl sz n fun i j => shrC (k + d) H (elE cO l i j)) (slL sz c l) := by
  subst hn
  refine Wk.sl fun i j hi hj => ?_
  have := (h.h H k (l.getD i default)).getD j
  have e : ((cO (l.getD i default)).map (shrC (k + d) H)).getD j .any = shrC (k + d) H (elE cO l i j) := by
    unfold elE
    generalize cO (l.getD i default) = cs
    rw [List.getD_eq_getElem?_getD, List.getD_eq_getElem?_getD, List.getElem?_map]
    cases cs[j]? with
    | none => exact shr_any.symm
    | some x => rfl
  rw [e] at this
  exact this
inductive RowsPl : Hp → Prop
  | nil : RowsPl []
  | cons {x : Row} {H : Hp} (h : RowPl x) (r : RowsPl H) : RowsPl (some x :: H)
  | none {H : Hp} (r : RowsPl H) : RowsPl (none :: H)
theorem RowsPl.at {H : Hp} (h : RowsPl H) : ∀ (k : Nat) (x : Row), H[k]? = some (some x) → RowPl x := by
  induction h with
  | nil => intro k x h; simp at h
  | cons h r ih =>
    intro k y hk
    cases k with
    | zero => cases hk; exact h
    | succ k => exact ih k y (by simpa using hk)
  | none r ih =>
    intro k y hk
    cases k with
    | zero => cases hk
    | succ k => exact ih k y (by simpa using hk)
theorem lok_pl {σ : Nat → Nat} {L : Hp} (h : RowsPl L) : LOk σ L L := lok_self h.at
theorem keepK {π : List Nat} {H0 : Hp} {n : Nat} (hX : H0.length = n) (h : (List.range n).all (fun k => π[k]? == some k) = true) : ∀ k, k < H0.length → π[k]? = some k := fun k hk => by
  have := List.all_eq_true.1 h k (List.mem_range.2 (by omega))
  simpa using this
def markL {α : Type} (f : α → Int → α × Int) : List α → Int → List α × Int
  | [], k => ([], k)
  | a :: l, k => ((f a k).1 :: (markL f l (f a k).2).1, (markL f l (f a k).2).2)
theorem markL_snoc {α : Type} {f : α → Int → α × Int} {a : α} : ∀ (l : List α) (k : Int), markL f (l ++ [a]) k = ((markL f l k).1 ++ [(f a (markL f l k).2).1], (f a (markL f l k).2).2)
  | [], k => rfl
  | b :: l, k => by simp [markL, markL_snoc l]
theorem markL_mono {α : Type} {f : α → Int → α × Int} (hf : ∀ a k, k ≤ (f a k).2) : ∀ (l : List α) (k : Int), k ≤ (markL f l k).2
  | [], k => Int.le_refl _
  | a :: l, k => Int.le_trans (hf a k) (markL_mono hf l _)
theorem markL_app {α : Type} {f : α → Int → α × Int} : ∀ (l m : List α) (k : Int), markL f (l ++ m) k = ((markL f l k).1 ++ (markL f m (markL f l k).2).1, (markL f m (markL f l k).2).2)
  | [], m, k => rfl
  | b :: l, m, k => by simp [markL, markL_app l]
def mkC {α : Type} (f : α → Int → α × Int) (l : List α) (k : Int) (i : Nat) : Int := (markL f (l.take i) k).2
section
variable {α : Type} {f : α → Int → α × Int} {l : List α} {k : Int} {i : Nat}
theorem take_snoc [Inhabited α] (h : i < l.length) : l.take (i + 1) = l.take i ++ [l.getD i default] := by
  rw [List.take_add_one, List.getElem?_eq_getElem h, List.getD_eq_getElem?_getD, List.getElem?_eq_getElem h]; rfl
theorem mkC_succ [Inhabited α] (h : i < l.length) : mkC f l k (i + 1) = (f (l.getD i default) (mkC f l k i)).2 := by
  unfold mkC
  rw [take_snoc h, markL_snoc]
theorem mkC_le (hf : ∀ a k, k ≤ (f a k).2) (i : Nat) : mkC f l k i ≤ (markL f l k).2 := by
  unfold mkC
  conv => rhs; rw [← List.take_append_drop i l]
  rw [markL_app]
  exact markL_mono hf _ _
end
theorem arr_same {α : Type} [Inhabited α] {r : List Nat} {n sz cap cap' : Nat} {c : α → List AV} {l l' : List α} {bx : RK} (e : l' = l) (hc : cap' = cap) (hlow : ∀ a j, fx r n ((c a).getD j .any) = true) : ArrP r n ⟨sz, cap, elE c l', bx⟩ ⟨sz, cap', elE c l, bx⟩ :=
  ⟨rfl, hc, rfl, fun i j hi hj => by show elE c l i j = elE c l' i j; rw [e], fun i j _ _ => hlow _ _⟩
structure MarkUp {α : Type} (f : α → Int → α × Int) (l : List α) (k : Int) (i : Nat) : Prop where
  lo : 0 ≤ mkC f l k i
  mono : ∀ a k, k ≤ (f a k).2
  hi : (markL f l k).2 ≤ 4611686018427387904
theorem MarkUp.le {α : Type} [Inhabited α] {f : α → Int → α × Int} {l : List α} {k : Int} {i : Nat} (h : MarkUp f l k i) (hi : i < l.length) : (f (l.getD i default) (mkC f l k i)).2 ≤ 4611686018427387904 := by
  rw [← mkC_succ hi]
  exact Int.le_trans (mkC_le h.mono _) h.hi
theorem roundET_turn {α : Type} {X : Ctx} {f0 : Fr} {H0 : Hp} {vs : α → Fr} {hp : α → List (Option RowI)} {I : α → Prop} {μ : α → Nat} {x : α} {f' : Fr} {H' H1 : Hp} (t : Turn X H' H1) (h : RoundEndT X f0 H0 vs hp I μ x f' H1) : RoundEndT X f0 H0 vs hp I μ x f' H' := by
  obtain ⟨H2, t2, h⟩ := h
  exact ⟨H2, t.trans t2, h⟩
theorem roundET_end {α : Type} {X : Ctx} {f0 : Fr} {H0 : Hp} {vs : α → Fr} {hp : α → List (Option RowI)} {I : α → Prop} {μ : α → Nat} {x : α} {f' : Fr} {H' : Hp} (h : RoundEnd X f0 H0 vs hp I μ x f' H') : RoundEndT X f0 H0 vs hp I μ x f' H' := ⟨H', Turn.refl, h⟩
theorem catE_at {n i j : Nat} {es g : Nat → Nat → AV} : catE n es g i j = if i < n then es i j else g (i - n) j := by
  by_cases h : i < n
  · rw [if_pos h, catE_lt h]
  · rw [if_neg h, catE_ge (by omega)]
theorem getD_snoc {α : Type} [Inhabited α] {l : List α} {a : α} {i : Nat} : (l ++ [a]).getD i default = if i < l.length then l.getD i default else if i = l.length then a else default := by
  rw [List.getD_eq_getElem?_getD, List.getD_eq_getElem?_getD]
  by_cases h : i < l.length
  · rw [if_pos h, List.getElem?_append_left h]
  · rw [if_neg h, List.getElem?_append_right (by omega)]
    by_cases e : i = l.length
    · rw [if_pos e, e, Nat.sub_self]; rfl
    · rw [if_neg e, List.getElem?_eq_none (by simp; omega)]; rfl
theorem snoc_idf {α : Type} [Inhabited α] {k sz : Nat} {c : α → List AV} {l : List α} {g : Nat → Nat → AV} [h : HoldC c] (hk : k = l.length) (hg : ∀ j, j < sz → (g 0 j).idfO) : ∀ i j, i < k + 1 → j < sz → (catE k (elE c l) g i j).idfO := fun i j hi hj => by
  rw [catE_at]
  by_cases h' : i < k
  · rw [if_pos h']; exact h.h _ j
  · rw [if_neg h', show i - k = 0 by omega]; exact hg j hj
theorem snoc_eq {α : Type} [Inhabited α] {k sz : Nat} {c : α → List AV} {l : List α} {a : α} {g : Nat → Nat → AV} (hk : k = l.length) (hg : ∀ j, j < sz → OwEq (g 0 j) ((c a).getD j .any)) : ∀ i j, i < k + 1 → j < sz → OwEq (catE k (elE c l) g i j) (elE c (l ++ [a]) i j) := fun i j hi hj => by
  rw [catE_at]
  unfold elE
  rw [getD_snoc]
  by_cases h' : i < k
  · rw [if_pos h', if_pos (by omega)]; exact .refl _
  · rw [if_neg h', if_neg (by omega), if_pos (by omega), show i - k = 0 by omega]; exact hg j hj
theorem RowBack.L {α : Type} [Inhabited α] {σ : Nat → Nat} {m sz n : Nat} {c : α → List AV} {l : List α} (hn : l.length = n) (h : ∀ a, (c a).all pl1 = true) : RowBack σ m (rowL sz c l) ⟨sz, n, elE c l, .arr⟩ := ⟨rfl, hn, .refl _, fun i j _ _ => ⟨(pl1_ren (pl1_getD (h _) j)).1.symm, pl1_low2 (pl1_getD (h _) j)⟩⟩
theorem MixL.wk {π : List Nat} {H : Hp} {a c : AV} {es cs : List AV} (h : Wk (shr (outM π 0 H) c) a) (r : MixL π H es cs) : MixL π H (a :: es) (c :: cs) := .frz h.c r
theorem viewA {π : List Nat} {H H0 : Hp} (hn : nodupB π = true := by exact rfl) (h : ViewL H (sig π H.length) π.length π H0 := by repeat' (first | exact ViewL.nil | refine ViewL.cons rfl (RowBack.self ?_) ?_ | exact rowPl_L (fun _ => rfl) | exact rowPl_box rfl)) : ViewOk π H H0 := view_of hn h
theorem lokA {σ : Nat → Nat} {L : Hp} (h : RowsPl L := by repeat' (first | exact RowsPl.nil | refine RowsPl.cons ?_ ?_ | refine RowsPl.none ?_ | exact rowPl_L (fun _ => rfl) | exact rowPl_box rfl)) : LOk σ L L := lok_pl h
end
theorem lbz_rho {X : Ctx} {r : List Nat} {id : Nat} (hX : X.H0 = []) (h : id < X.H0.length) : rhoF r id = id := by rw [hX] at h; exact absurd h (Nat.not_lt_zero _)
theorem lbz_len {α : Type} {l : List α} {a : α} : l.length + 1 = (l ++ [a]).length := by rw [List.length_append]; rfl
end Go.Proofs.YtfaadafgbhmlfaaDoor
