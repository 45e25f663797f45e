/- Texts for VReadTermP. -/
import Derived.Shelf.Small.Strs
import Derived.Test.YtllcemegnggpfaaProg
import Derived.Test.YtllcemegnggpfaaVr17
namespace Go.Proofs.Ytllcemegnggpfaa
open Go Go.RowKit
set_option linter.unusedVariables false
set_option linter.unusedSimpArgs false
section
abbrev byI (b : ByteArray) (k : Nat) : Int := (((b.data.getD k 0).toNat : Nat) : Int)
def isLt (c : Int) : Prop := 97 ≤ c ∧ c ≤ 122
def isDg (c : Int) : Prop := 48 ≤ c ∧ c ≤ 57
def wdP (s : ByteArray) (k : Nat) : Prop := isLt (byI s k) ∨ isDg (byI s k) ∨ (byI s k = 45 ∧ (isLt (byI s (k + 1)) ∨ isDg (byI s (k + 1))))
def nbP (s : ByteArray) (k : Nat) : Prop := isDg (byI s k) ∨ (byI s k = 46 ∧ isDg (byI s (k + 1)))
open Classical in
noncomputable def endF (P : Nat → Prop) : Nat → Nat → Nat
  | 0, k => k
  | m + 1, k => if P k then endF P m (k + 1) else k
open Classical in
theorem endF_step {P : Nat → Prop} {n k : Nat} (hk : k < n) (h : P k) : endF P (n - k) k = endF P (n - (k + 1)) (k + 1) := by
  have e : n - k = (n - (k + 1)) + 1 := by omega
  rw [e]
  exact if_pos h
open Classical in
theorem endF_stop {P : Nat → Prop} {n k : Nat} (h : k < n → ¬ P k) : endF P (n - k) k = k := by
  by_cases hk : k < n
  · have e : n - k = (n - (k + 1)) + 1 := by omega
    rw [e]
    exact if_neg (h hk)
  · rw [show n - k = 0 by omega]
    rfl
open Classical in
theorem endF_ge (P : Nat → Prop) : ∀ m k, k ≤ endF P m k
  | 0, k => Nat.le_refl _
  | m + 1, k => by
    show k ≤ if P k then endF P m (k + 1) else k
    split
    · exact Nat.le_of_succ_le (endF_ge P m (k + 1))
    · exact Nat.le_refl _
open Classical in
theorem endF_le (P : Nat → Prop) : ∀ m k, endF P m k ≤ k + m
  | 0, k => Nat.le_refl _
  | m + 1, k => by
    show (if P k then endF P m (k + 1) else k) ≤ _
    split
    · have := endF_le P m (k + 1); omega
    · omega
theorem endF_gt {P : Nat → Prop} {n k : Nat} (hk : k < n) (h : P k) : k < endF P (n - k) k := by
  rw [endF_step hk h]
  exact endF_ge P _ _
theorem endF_len {P : Nat → Prop} {n k : Nat} (hk : k ≤ n) : endF P (n - k) k ≤ n := by
  have := endF_le P (n - k) k
  omega
noncomputable def skW (s : ByteArray) (k : Nat) (line : Int) : Nat × Int :=
  if hk : k < s.size then
    if byI s k = 10 then skW s (k + 1) (line + 1)
    else if byI s k = 32 then skW s (k + 1) line
    else if h : byI s k = 47 ∧ byI s (k + 1) = 47 then skW s (endF (fun i => ¬ byI s i = 10) (s.size - k) k) line
    else (k, line)
  else (k, line)
termination_by s.size - k
decreasing_by
  · omega
  · omega
  · have := endF_gt (P := fun i => ¬ byI s i = 10) hk (by rw [h.1]; decide)
    omega
theorem skW_nl {s : ByteArray} {k : Nat} {line : Int} (hk : k < s.size) (h : byI s k = 10) : skW s k line = skW s (k + 1) (line + 1) := by
  rw [skW, dif_pos hk, if_pos h]
theorem skW_sp {s : ByteArray} {k : Nat} {line : Int} (hk : k < s.size) (h : byI s k = 32) : skW s k line = skW s (k + 1) line := by
  rw [skW, dif_pos hk, if_neg (by rw [h]; decide), if_pos h]
theorem skW_co {s : ByteArray} {k : Nat} {line : Int} (hk : k < s.size) (h : byI s k = 47) (h1 : byI s (k + 1) = 47) : skW s k line = skW s (endF (fun i => ¬ byI s i = 10) (s.size - k) k) line := by
  rw [skW, dif_pos hk, if_neg (by rw [h]; decide), if_neg (by rw [h]; decide), dif_pos ⟨h, h1⟩]
theorem skW_no {s : ByteArray} {k : Nat} {line : Int} (h : k < s.size → ¬ byI s k = 10 ∧ ¬ byI s k = 32 ∧ ¬ (byI s k = 47 ∧ byI s (k + 1) = 47)) : skW s k line = (k, line) := by
  rw [skW]
  by_cases hk : k < s.size
  · obtain ⟨h1, h2, h3⟩ := h hk
    rw [dif_pos hk, if_neg h1, if_neg h2, dif_neg h3]
  · rw [dif_neg hk]
theorem skW_ge (s : ByteArray) : ∀ (m k : Nat) (line : Int), s.size - k ≤ m → k ≤ (skW s k line).1 ∧ (k ≤ s.size → (skW s k line).1 ≤ s.size) ∧ line ≤ (skW s k line).2 ∧ (skW s k line).2 + k ≤ line + (skW s k line).1 := by
  intro m
  induction m with
  | zero =>
    intro k line h
    rw [skW_no (fun hk => by omega)]
    exact ⟨Nat.le_refl _, fun h => h, Int.le_refl _, by omega⟩
  | succ m ih =>
    intro k line h
    by_cases hk : k < s.size
    · by_cases h1 : byI s k = 10
      · rw [skW_nl hk h1]
        obtain ⟨a, b, c, d⟩ := ih (k + 1) (line + 1) (by omega)
        exact ⟨by omega, fun _ => b hk, by omega, by omega⟩
      by_cases h2 : byI s k = 32
      · rw [skW_sp hk h2]
        obtain ⟨a, b, c, d⟩ := ih (k + 1) line (by omega)
        exact ⟨by omega, fun _ => b hk, by omega, by omega⟩
      by_cases h3 : byI s k = 47 ∧ byI s (k + 1) = 47
      · rw [skW_co hk h3.1 h3.2]
        have g1 := endF_gt (P := fun i => ¬ byI s i = 10) hk (by rw [h3.1]; decide)
        have g2 := endF_len (P := fun i => ¬ byI s i = 10) (Nat.le_of_lt hk)
        obtain ⟨a, b, c, d⟩ := ih (endF (fun i => ¬ byI s i = 10) (s.size - k) k) line (by omega)
        exact ⟨by omega, fun _ => b g2, by omega, by omega⟩
      · rw [skW_no (fun _ => ⟨h1, h2, h3⟩)]
        exact ⟨Nat.le_refl _, fun h => h, Int.le_refl _, by omega⟩
    · rw [skW_no (fun q => absurd q hk)]
      exact ⟨Nat.le_refl _, fun h => h, Int.le_refl _, by omega⟩
structure Tok where
  kind : Int
  text : ByteArray
  line : Int
  deriving Inhabited
def tokC (t : Tok) : List AV := [.i .i64 t.kind, .s t.text, .i .i64 t.line]
def sgL : List Int := [123, 125, 40, 41, 60, 62, 44, 59, 58, 61, 46, 47, 64, 95]
open Classical in
noncomputable def nxt (s : ByteArray) (k : Nat) : Int × Nat :=
  if isLt (byI s k) then (1, endF (wdP s) (s.size - k) k)
  else if isDg (byI s k) then (2, endF (nbP s) (s.size - k) k)
  else if byI s k = 45 ∧ byI s (k + 1) = 62 then (3, k + 2)
  else if byI s k ∈ sgL then (3, k + 1)
  else (0, 0)
theorem byI_out {s : ByteArray} {k : Nat} (h : s.size ≤ k) : byI s k = 0 := by
  unfold byI
  have : s.data.getD k 0 = 0 := by
    rw [Array.getD_eq_getD_getElem?, Array.getElem?_eq_none (by exact h)]
    rfl
  rw [this]
  rfl
theorem nxt_rng {s : ByteArray} {k : Nat} (hk : k < s.size) (h : ¬ (nxt s k).1 = 0) : k < (nxt s k).2 ∧ (nxt s k).2 ≤ s.size ∧ 1 ≤ (nxt s k).1 ∧ (nxt s k).1 ≤ 3 := by
  unfold nxt at h ⊢
  by_cases h1 : isLt (byI s k)
  · rw [if_pos h1] at h ⊢
    exact ⟨endF_gt hk (.inl h1), endF_len (Nat.le_of_lt hk), (show (1 : Int) ≤ 1 by decide), (show (1 : Int) ≤ 3 by decide)⟩
  rw [if_neg h1] at h ⊢
  by_cases h2 : isDg (byI s k)
  · rw [if_pos h2] at h ⊢
    exact ⟨endF_gt hk (.inl h2), endF_len (Nat.le_of_lt hk), (show (1 : Int) ≤ 2 by decide), (show (2 : Int) ≤ 3 by decide)⟩
  rw [if_neg h2] at h ⊢
  by_cases h3 : byI s k = 45 ∧ byI s (k + 1) = 62
  · rw [if_pos h3] at h ⊢
    refine ⟨by show k < k + 2; omega, ?_, (show (1 : Int) ≤ 3 by decide), (show (3 : Int) ≤ 3 by decide)⟩
    show k + 2 ≤ s.size
    apply Nat.le_of_not_lt
    intro hc
    have := byI_out (s := s) (k := k + 1) (by omega)
    rw [this] at h3
    exact absurd h3.2 (by decide)
  rw [if_neg h3] at h ⊢
  by_cases h4 : byI s k ∈ sgL
  · rw [if_pos h4] at h ⊢
    exact ⟨Nat.lt_succ_self k, hk, (show (1 : Int) ≤ 3 by decide), (show (3 : Int) ≤ 3 by decide)⟩
  · rw [if_neg h4] at h
    exact absurd rfl h
inductive Lx where
  | ok (l : List Tok)
  | err (line code : Int)
open Classical in
noncomputable def lexG (s : ByteArray) (acc : List Tok) (k : Nat) (line : Int) : Lx :=
  if hk : k < s.size then
    if h : (nxt s k).1 = 0 then .err line 6
    else if acc.length = 4000 then .err line 4
    else lexG s (acc ++ [⟨(nxt s k).1, s.extract k (nxt s k).2, line⟩]) (skW s (nxt s k).2 line).1 (skW s (nxt s k).2 line).2
  else .ok (acc ++ [⟨4, ⟨#[]⟩, line⟩])
termination_by s.size - k
decreasing_by
  have h1 := nxt_rng hk h
  have h2 := skW_ge s _ (nxt s k).2 line (Nat.le_refl _)
  omega
noncomputable def lexF (s : ByteArray) : Lx := if s.size > 30000 then .err 0 4 else lexG s [] (skW s 0 1).1 (skW s 0 1).2
end
section
open Go Go.Shelf
def lays137_ren : Go.Shelf.Ren := ⟨fun | 137 => 100 | 217 => 108 | 266 => 111 | n => n, fun | 9 => 9 | 5 => 5 | 3 => 3 | n => n, fun | n => n⟩
theorem lays137 : Lays.n137 Try.prog lays137_ren := {
  mixed := by kernel_rfl,
  f137 := Try.func100.trans (congrArg some (by kernel_rfl)),
  f217 := Try.func108.trans (congrArg some (by kernel_rfl)),
  f266 := Try.func111.trans (congrArg some (by kernel_rfl)),
  t3 := Try.underlying3,
  a3 := Try.isAgg3,
  z3 := Try.sizeOf3,
  v3 := Try.zeroValue3,
  t5 := Try.underlying5,
  a5 := Try.isAgg5,
  z5 := Try.sizeOf5,
  v5 := Try.zeroValue5,
  t9 := Try.underlying9,
  a9 := Try.isAgg9,
  z9 := Try.sizeOf9,
  v9 := Try.zeroValue9 }
end
theorem concL_2 {w : World} {S : Nat → Prop} {blk : Nat → BC} {H : Hp} {x y : AV} {us : List Value} (h : ConcL w S blk H [x, y] us) : ∃ u v, us = [u, v] ∧ Conc w S blk H x u ∧ Conc w S blk H y v := by
  obtain ⟨hl, h⟩ := h
  match us, hl with
  | [u, v], _ => exact ⟨u, v, rfl, h 0 x u rfl rfl, h 1 y v rfl rfl⟩
theorem conc_i {w : World} {S : Nat → Prop} {blk : Nat → BC} {H : Hp} {z : Int} (h1 : -9223372036854775808 ≤ z) (h2 : z < 9223372036854775808) : Conc w S blk H (.i .i64 z) (.int .i64 z) := .i (by
  simp only [Lit.wf, IntKind.min, IntKind.max, IntKind.signed, IntKind.bits, Bool.and_eq_true, decide_eq_true_eq, if_true, Bool.false_eq_true, if_false]
  omega)
section
open Go Go.RowKit Go.Shelf
theorem indexByte_lt : ∀ (l : List UInt8) (c : UInt8), Lib.indexByte l c < l.length
  | [], c => by simp [Lib.indexByte]
  | b :: l, c => by
    have := indexByte_lt l c
    unfold Lib.indexByte
    rw [List.length_cons]
    split
    · omega
    · split <;> omega
theorem indexByte_iff : ∀ (l : List UInt8) (c : UInt8), 0 ≤ Lib.indexByte l c ↔ c ∈ l
  | [], c => by simp [Lib.indexByte]
  | b :: l, c => by
    have ih := indexByte_iff l c
    have hg := Lib.indexByte_ge l c
    unfold Lib.indexByte
    rw [List.mem_cons, ← ih]
    by_cases h : b = c
    · subst h
      simp
    · have h1 : (b == c) = false := by simpa using h
      have h2 : ¬ c = b := fun e => h e.symm
      rw [h1]
      simp only [Bool.false_eq_true, if_false, h2, false_or]
      split
      · rename_i q
        have : Lib.indexByte l c = -1 := by simpa using q
        omega
      · rename_i q
        have : ¬ Lib.indexByte l c = -1 := by simpa using q
        omega
theorem indexByte_ok (s : ByteArray) (c : Nat) : Ret env.P 100 [.s s, .i .u8 (c : Int)] (fun r => r = .i .i64 (Lib.indexByte s.data.toList c.toUInt8)) := .mk fun w S us hS hc => by
  obtain ⟨u, v, rfl, h1, h2⟩ := concL_2 hc
  obtain ⟨rfl, hs⟩ := inv_s h1
  obtain ⟨rfl, _⟩ := inv_i h2
  have hlt := indexByte_lt s.data.toList c.toUInt8
  have hge := Lib.indexByte_ge s.data.toList c.toUInt8
  have hlen : s.data.toList.length = s.size := rfl
  have hm : maxLen ≤ 9223372036854775807 := by decide
  refine (Any.strings_IndexByte lays137 s c w).mono fun e w' ⟨he, hw⟩ => ⟨_, _, he, rfl, conc_i (by omega) (by omega), hw ▸ Below.refl _ _⟩
end
section
variable {E : Env} {P : Program} {nt : Nat} {X : Ctx} {f : Fr} {H : Hp} {ty : TypeId}
def dimsK (n0 : Nat) (H H' : Hp) : List Nat → Prop
  | [] => True
  | id :: r => (bif Nat.ble n0 id then True else match H[id]?, H'[id]? with
    | some (some x), some (some y) => y.sz = x.sz ∧ y.cap = x.cap ∧ blankK y.k = blankK x.k
    | some none, some none => True
    | _, _ => False) ∧ dimsK n0 H H' r
theorem dimsK_at {n0 : Nat} {H H' : Hp} : ∀ {M : List Nat}, dimsK n0 H H' M → ∀ i, i < n0 → i ∈ M → (H'[i]?).map (fun r => r.map Go.Proofs.Ytllcemegnggpfaa.blank) = (H[i]?).map (fun r => r.map Go.Proofs.Ytllcemegnggpfaa.blank)
  | [], _, i, _, hi => by cases hi
  | id :: r, h, i, hlt, hi => by
    rcases List.mem_cons.1 hi with rfl | hi
    · have h1 := h.1
      have hb : Nat.ble n0 i = false := by
        cases hb : Nat.ble n0 i with
        | false => rfl
        | true => have := Nat.le_of_ble_eq_true hb; omega
      rw [hb, cond_false] at h1
      split at h1
      · rename_i x y e1 e2
        rw [e1, e2]
        simp only [Option.map_some, Go.Proofs.Ytllcemegnggpfaa.blank, h1.1, h1.2.1, h1.2.2]
      · rename_i e1 e2
        rw [e1, e2]
      · cases h1
    · exact dimsK_at h.2 i hlt hi
def efC (E : Env) (nt : Nat) (M : List Nat) (n0 : Nat) (o : Oper) (f : Fr) (H : Hp) (K : AV → Hp → Prop) : Prop :=
  match o.op with
  | .call ⟨.value fx, args, _⟩ => (match o.guard with
    | some _ => False
    | none => (match o.dst with
      | some d => bif Nat.blt d nt then clM E f H (fun i => M.contains i || Nat.ble n0 i) fx args.toList (fun v H' => dimsK n0 H H' M ∧ K v H') else False
      | none => clM E f H (fun i => M.contains i || Nat.ble n0 i) fx args.toList (fun _ H' => dimsK n0 H H' M ∧ K .any H')))
  | _ => efK E nt M n0 o f H K
theorem hid_call {M : List Nat} {n0 : Nat} {H2 : Hp} (hn : n0 ≤ H.length) (h1 : dimsK n0 H H2 M) (h2 : ∀ i, i < H.length → (M.contains i || Nat.ble n0 i) = false → H2[i]? = H[i]?) : hidM M 0 (H2.take n0) = hidM M 0 (H.take n0) := by
  apply List.ext_getElem?
  intro i
  rw [hidM_at, hidM_at, List.getElem?_take, List.getElem?_take]
  by_cases hi : i < n0
  · rw [if_pos hi, if_pos hi]
    simp only [Nat.zero_add]
    cases hM : M.contains i with
    | true =>
      simp only [cond_true]
      exact dimsK_at h1 i hi (List.contains_iff_mem.1 hM)
    | false =>
      rw [h2 i (by omega) (by
        rw [hM, Bool.false_or]
        cases hb : Nat.ble n0 i with
        | false => rfl
        | true => have := Nat.le_of_ble_eq_true hb; omega)]
  · rw [if_neg hi, if_neg hi]
theorem efC_po {M : List Nat} {n0 : Nat} {o : Oper} {K : AV → Hp → Prop} (hn : n0 ≤ H.length) (h : efC E nt M n0 o f H K) : o.guard = none ∧ PO E.P nt X o f H fun f' H' => ∃ v, f' = pushD o.dst v f ∧ hidM M 0 (H'.take n0) = hidM M 0 (H.take n0) ∧ K v H' := by
  unfold efC at h
  split at h
  · rename_i fx args tys hop
    split at h
    · cases h
    rename_i hg
    refine ⟨hg, ?_⟩
    obtain ⟨d?, op, ty, pos, after, gd⟩ := o
    dsimp only at h hop hg
    subst hop
    split at h
    · rename_i d
      cases hb : Nat.blt d nt with
      | false => rw [hb] at h; cases h
      | true =>
        rw [hb, cond_true] at h
        rintro a w ⟨blk, FP, s⟩ K' Q' hK
        refine clM_run h s _ tys (by simp) K' Q' fun r u w' H2 blk2 FP2 hk hsame s2 hc => ?_
        exact hK _ _ _ _ ⟨r, rfl, hid_call hn hk.1 hsame, hk.2⟩ ⟨blk2, FP2, s2.put (Nat.le_of_ble_eq_true hb) hc⟩
    · rintro a w ⟨blk, FP, s⟩ K' Q' hK
      refine clM_run h s _ tys (by simp) K' Q' fun r u w' H2 blk2 FP2 hk hsame s2 hc => ?_
      exact hK _ _ _ _ ⟨.any, rfl, hid_call hn hk.1 hsame, hk.2⟩ ⟨blk2, FP2, s2⟩
  · exact ef_po hn h
def dsC (E : Env) (nt : Nat) (ops : Array Oper) (M : List Nat) (H0 : Hp) (Q : Fr → Hp → Prop) (n : Nat) : List Nat → Fr → Hp → Prop :=
  Nat.rec (motive := fun _ => List Nat → Fr → Hp → Prop) (fun _ f H => Q f H) (fun _ ih D f H => match firstRd E ops M H0.length f D 0 ops.toList with
    | some (i, o) => (match o.dst with
      | some d => bif Nat.blt d nt then
          rdK E (hidM M 0 H0) (restr (looksL ops o) f) o.op fun v => frc v fun v => bif low H0.length v then ih (i :: D) ((d, v) :: f) H else False else False
      | none => False)
    | none => brsK D (fun i o => efC E nt M H0.length o f H fun v H' => pushK o.dst v f fun f => ih (i :: D) f H') ops.toList 0 none) n
theorem dsC_succ {ops : Array Oper} {M : List Nat} {H0 : Hp} {Q : Fr → Hp → Prop} {n : Nat} {D : List Nat} {f : Fr} {H : Hp} : dsC E nt ops M H0 Q (n + 1) D f H = match firstRd E ops M H0.length f D 0 ops.toList with
    | some (i, o) => (match o.dst with
      | some d => bif Nat.blt d nt then
          rdK E (hidM M 0 H0) (restr (looksL ops o) f) o.op fun v => frc v fun v => bif low H0.length v then dsC E nt ops M H0 Q n (i :: D) ((d, v) :: f) H else False else False
      | none => False)
    | none => brsK D (fun i o => efC E nt M H0.length o f H fun v H' => pushK o.dst v f fun f => dsC E nt ops M H0 Q n (i :: D) f H') ops.toList 0 none := rfl
theorem dsC_ok {ops : Array Oper} {M : List Nat} {H0 : Hp} {Q : Exit → Fr → Hp → Prop} : ∀ (n : Nat) (D : List Nat) (f : Fr) (H : Hp), hidM M 0 (H.take H0.length) = hidM M 0 H0 → dsC E nt ops M H0 (Q .normal) n D f H → DR E.P nt X ops M H0 Q n D f H
  | 0, D, f, H, _, h => h
  | n + 1, D, f, H, hold, h => by
    have hlen : H0.length ≤ H.length := by
      have := congrArg List.length hold
      rw [hidM_len, hidM_len, List.length_take] at this
      omega
    rw [dsC_succ] at h
    split at h
    · rename_i i o hfi
      obtain ⟨_, h1, h2, h3, h6, h4, h5⟩ := firstRd_ok hfi
      split at h
      · rename_i d hd
        rw [looksL_eq] at h
        cases hb : Nat.blt d nt with
        | false => rw [hb] at h; cases h
        | true =>
          rw [hb, cond_true] at h
          obtain ⟨v, hpj, hk⟩ := pj_of (nt := nt) (X := X) (ops := ops) (ty := o.type) h
          rw [frc_eq] at hk
          cases hl : low H0.length v with
          | false => rw [hl] at hk; cases hk
          | true =>
            rw [hl, cond_true] at hk
            exact .inl ⟨i, o, d, v, by simpa using h1, h2, hd, Nat.le_of_ble_eq_true hb, h3, h6, hl, h5 d hd, .inl ⟨h4, hpj⟩, dsC_ok n _ _ _ hold hk⟩
      · cases h
    · refine .inr fun i o ho hD hw => ?_
      have hm := brsK_mem h (Nat.zero_le i) (by simpa using ho) hD hw
      obtain ⟨hg, hpo⟩ := efC_po (X := X) hlen hm
      refine pl_op hg (hpo.mono ?_)
      rintro f' H' ⟨v, rfl, ho1, hk⟩
      rw [pushK_eq] at hk
      refine pl_nil ⟨rfl, ?_, ho1.trans hold, dsC_ok n _ _ _ (ho1.trans hold) hk⟩
      cases hd : o.dst with
      | none => exact ext_rfl
      | some d => exact ext_cons
end
end Go.Proofs.Ytllcemegnggpfaa
