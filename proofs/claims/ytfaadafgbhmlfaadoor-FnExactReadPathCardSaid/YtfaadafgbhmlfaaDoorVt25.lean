/- Texts for VReadPathP. -/
import Derived.Shelf.Strings.Split
import Derived.Shelf.Strconv.ParseIntPublic10
import Derived.Shelf.Strconv.Itoa4
import Derived.Test.YtfaadafgbhmlfaaDoorProg
import Derived.Lib.Split
import Derived.Lib.ParseIntB
import Derived.Lib.ItoaNum
import Derived.WalkKit
import Derived.BigCall
import Derived.Test.YtfaadafgbhmlfaaDoorVt24
namespace Go.Proofs.YtfaadafgbhmlfaaDoor
open Go Go.RowKit
set_option linter.unusedVariables false
set_option linter.unusedSimpArgs false
set_option maxRecDepth 8000
def AccOk (acc : List Tok) : Prop := acc.length ≤ 4000 ∧ ∀ t ∈ acc, (1 ≤ t.kind ∧ t.kind ≤ 3) ∧ (t.kind = 2 → isDg (byI t.text 0)) ∧ t.text.size ≤ 30000
theorem getD_mem {l : List Tok} {i : Nat} (h : i < l.length) : l.getD i default ∈ l := by
  rw [List.getD_eq_getElem?_getD, List.getElem?_eq_getElem h]
  exact List.getElem_mem h
theorem getD_app {l : List Tok} {t : Tok} {i : Nat} (h : i < l.length) : (l ++ [t]).getD i default = l.getD i default := by
  rw [List.getD_eq_getElem?_getD, List.getElem?_append_left h, ← List.getD_eq_getElem?_getD]
theorem getD_lst {l : List Tok} {t : Tok} : (l ++ [t]).getD l.length default = t := by
  rw [List.getD_eq_getElem?_getD, List.getElem?_append_right (Nat.le_refl _), Nat.sub_self]
  rfl
theorem AccOk.lex {acc : List Tok} {line : Int} (h : AccOk acc) : LexOk (acc ++ [⟨4, ⟨#[]⟩, line⟩]) where
  pos := by simp
  most := by have := h.1; simp; omega
  last := by rw [show (acc ++ [(⟨4, ⟨#[]⟩, line⟩ : Tok)]).length - 1 = acc.length by simp, getD_lst]
  rest := fun i hi => by
    have hi : i < acc.length := by simpa using hi
    rw [getD_app hi]
    exact (h.2 _ (getD_mem hi)).1
  num := fun i hi hk => by
    by_cases e : i < acc.length
    · rw [getD_app e] at hk ⊢
      exact (h.2 _ (getD_mem e)).2.1 hk
    · obtain rfl : i = acc.length := by simp at hi; omega
      rw [getD_lst] at hk
      cases hk
  sz := fun i hi => by
    by_cases e : i < acc.length
    · rw [getD_app e]
      exact (h.2 _ (getD_mem e)).2.2
    · obtain rfl : i = acc.length := by simp at hi; omega
      rw [getD_lst]
      exact Nat.zero_le _
theorem byI_ext {s : ByteArray} {k e : Nat} (h : k < e) (he : e ≤ s.size) : byI (s.extract k e) 0 = byI s k := by
  unfold byI
  have : (s.extract k e).data.getD 0 0 = s.data.getD k 0 := by
    rw [ByteArray.data_extract]
    have hk : k < s.data.size := Nat.lt_of_lt_of_le h he
    rw [Array.getD_eq_getD_getElem?, Array.getD_eq_getD_getElem?, Array.getElem?_extract_of_lt (by have : s.data.size = s.size := rfl; omega), Array.getElem?_eq_getElem hk]
    simp only [Nat.add_zero]
  rw [this]
theorem nxt_dg {s : ByteArray} {k : Nat} (h : (nxt s k).1 = 2) : isDg (byI s k) := by
  unfold nxt at h
  by_cases h1 : isLt (byI s k)
  · rw [if_pos h1] at h; cases h
  · rw [if_neg h1] at h
    by_cases h2 : isDg (byI s k)
    · exact h2
    · rw [if_neg h2] at h
      split at h
      · cases h
      · split at h <;> cases h
theorem lexG_ok {s : ByteArray} (hs : s.size ≤ 30000) {L : List Tok} : ∀ (n : Nat) (acc : List Tok) (k : Nat) (line : Int), s.size - k ≤ n → AccOk acc → lexG s acc k line = .ok L → LexOk L := by
  intro n
  induction n with
  | zero =>
    intro acc k line hn ha h
    rw [lexG, dif_neg (by omega)] at h
    cases h
    exact ha.lex
  | succ n ih =>
    intro acc k line hn ha h
    rw [lexG] at h
    by_cases hk : k < s.size
    · rw [dif_pos hk] at h
      split at h
      · cases h
      · rename_i h0
        split at h
        · cases h
        · rename_i h4
          have hr := nxt_rng hk h0
          refine ih _ _ _ ?_ ?_ h
          · have := skW_ge s _ (nxt s k).2 line (Nat.le_refl _)
            omega
          · refine ⟨by have := ha.1; simp; omega, fun t ht => ?_⟩
            rcases List.mem_append.1 ht with q | q
            · exact ha.2 t q
            · obtain rfl := List.mem_singleton.1 q
              refine ⟨hr.2.2, fun e => ?_, ?_⟩
              · dsimp only at e ⊢
                rw [byI_ext hr.1 hr.2.1]
                exact nxt_dg e
              · dsimp only
                rw [ByteArray.size_extract]
                omega
    · rw [dif_neg hk] at h
      cases h
      exact ha.lex
theorem lexF_ok {s : ByteArray} {L : List Tok} (h : lexF s = .ok L) : LexOk L := by
  unfold lexF at h
  split at h
  · cases h
  · exact lexG_ok (by omega) _ [] _ _ (Nat.le_refl _) ⟨Nat.zero_le _, by simp⟩ h
theorem lexG_err {s : ByteArray} {l c : Int} : ∀ (n : Nat) (acc : List Tok) (k : Nat) (line : Int), s.size - k ≤ n → lexG s acc k line = .err l c → c = 6 ∨ c = 4 := by
  intro n
  induction n with
  | zero =>
    intro acc k line hn h
    rw [lexG, dif_neg (by omega)] at h
    cases h
  | succ n ih =>
    intro acc k line hn h
    rw [lexG] at h
    by_cases hk : k < s.size
    · rw [dif_pos hk] at h
      split at h
      · cases h; exact .inl rfl
      · rename_i h0
        split at h
        · cases h; exact .inr rfl
        · have hr := nxt_rng hk h0
          refine ih _ _ _ ?_ h
          have := skW_ge s _ (nxt s k).2 line (Nat.le_refl _)
          omega
    · rw [dif_neg hk] at h
      cases h
theorem lexF_err {s : ByteArray} {l c : Int} (h : lexF s = .err l c) : c = 6 ∨ c = 4 := by
  unfold lexF at h
  split at h
  · cases h; exact .inr rfl
  · exact lexG_err _ _ _ _ (Nat.le_refl _) h
section
attribute [local irreducible] IntKind.wrap
theorem tk_at {L : List Tok} {a : Nat} (h : a < L.length) : tkL L a = L[a]'h := by
  unfold tkL
  rw [List.getD_eq_getElem?_getD, List.getElem?_eq_getElem h]
  rfl
def pBv (L : List Tok) (a : Nat) (b : Bool) : List AV := [slL 3 tokC L, .i .i64 a, .b b]
theorem isT_kd {L : List Tok} (hL : LexOk L) {a : Nat} (ha : a < L.length) {t : ByteArray} (hd : ¬ isDg (byI t 0)) : isT L t a ↔ ((tkL L a).kind = 1 ∨ (tkL L a).kind = 3) ∧ (tkL L a).text = t := by
  unfold isT
  constructor
  · rintro ⟨h1, h2⟩
    refine ⟨?_, h2⟩
    have h3 := hL.lt ha h1
    have h4 := hL.rest a h3
    have h5 : ¬ (tkL L a).kind = 2 := fun q => by
      have := hL.num a ha q
      unfold tkL at h2
      rw [h2] at this
      exact hd this
    unfold tkL at *
    omega
  · rintro ⟨h1, h2⟩
    exact ⟨by omega, h2⟩
set_option maxHeartbeats 4000000 in
theorem isI_ok (L : List Tok) (hL : LexOk L) (a : Nat) (ha : a < L.length) (t : ByteArray) (hd : ¬ isDg (byI t 0)) : Ret env.P 35 [rfL (pBv L a false), .s t] (fun r => r = .b (pb (isT L t a))) := by
  have := hL.most
  have hk := isT_kd hL ha hd
  refine ret_of (nt := 37) (rvs := [.tmp 4]) Tryd.func35 rfl rfl rfl rfl (fun X => ?_)
  repeat' (first | omega | (with_reducible show (_ : Int) < _; dsimp only; omega) | (with_reducible show (_ : Nat) ≤ _; dsimp only; omega) | ((with_reducible show SrcOk _ _ _) <;> (first | exact srcOk_1 rfl | exact srcOk_L (fun _ => ⟨rfl, rfl⟩) | exact srcOk_E (fun _ => ⟨rfl, rfl⟩))) | ((conv => whnf) <;> (first | refine And.intro ?_ ?_ | (intro _h; first | contradiction | (try simp only [dd] at _h)) | (refine dt_go ?_) | exact rfl | exact True.intro | exact dkk | exact dks | (refine wrap_succ ?_; omega))))
  all_goals (first | (conv => whnf) | skip)
  all_goals first
    | exact rfl
    | exact leaf_p (by rw [hk, tk_at ha]; simp_all; done)
    | trace_state
set_option maxHeartbeats 4000000 in
theorem isI_b (L : List Tok) (hL : LexOk L) (a : Nat) (ha : a < L.length) (t : ByteArray) : Ret env.P 35 [rfL (pBv L a true), .s t] (fun r => r = .b false) := by
  have := hL.most
  refine ret_of (nt := 37) (rvs := [.tmp 4]) Tryd.func35 rfl rfl rfl rfl (fun X => ?_)
  repeat' (first | omega | (with_reducible show (_ : Int) < _; dsimp only; omega) | (with_reducible show (_ : Nat) ≤ _; dsimp only; omega) | ((with_reducible show SrcOk _ _ _) <;> (first | exact srcOk_1 rfl | exact srcOk_L (fun _ => ⟨rfl, rfl⟩) | exact srcOk_E (fun _ => ⟨rfl, rfl⟩))) | ((conv => whnf) <;> (first | refine And.intro ?_ ?_ | (intro _h; first | contradiction | (try simp only [dd] at _h)) | (refine dt_go ?_) | exact rfl | exact True.intro | exact dkk | exact dks | (refine wrap_succ ?_; omega))))
  all_goals (first | (conv => whnf) | skip)
  all_goals first
    | exact rfl
    | trace_state
theorem takeI_t (L : List Tok) (hL : LexOk L) (a : Nat) (ha : a < L.length) (t : ByteArray) (hd : ¬ isDg (byI t 0)) (h : isT L t a) : RetM env.P 20 [some (boxRow (pB L a false))] [.ptr 0 0 0, .s t] (fun r H => r = .kb true ∧ H = [some (boxRow (pB L (a + 1) false))]) := by
  have h1 := hL.isT_lt ha h
  have := hL.most
  have e : IntKind.i64.wrap ((a : Int) + 1) = ((a + 1 : Nat) : Int) := by rw [wrap_in (by omega) (by omega)]; rfl
  refine ret_ofM (nt := 16) (rvs := [.tmp 4]) Tryd.func20 rfl rfl rfl rfl (fun X hX => ?_)
  repeat' (first | omega | (with_reducible show (_ : Int) < _; dsimp only; omega) | (with_reducible show (_ : Nat) ≤ _; dsimp only; omega) | ((with_reducible show SrcOk _ _ _) <;> (first | exact srcOk_1 rfl | exact srcOk_L (fun _ => ⟨rfl, rfl⟩) | exact srcOk_E (fun _ => ⟨rfl, rfl⟩))) | ((conv => whnf) <;> (first | refine And.intro ?_ ?_ | (intro _h; first | contradiction | (try simp only [dd] at _h)) | (refine dt_go ?_) | exact rfl | exact True.intro | exact dkk | exact dks | ((first | refine .inl ⟨_, Ret.wk (by exact .cons (tWk_rfcp rfl rfl) (.cons (.refl _) .nil)) ((isI_ok L hL a ha t hd).mono fun r e => e.trans (by rw [pb_t.mpr h])), ?_⟩ | refine ⟨_, Ret.wk (by exact .cons (tWk_rfcp rfl rfl) (.cons (.refl _) .nil)) ((isI_ok L hL a ha t hd).mono fun r e => e.trans (by rw [pb_t.mpr h])), ?_⟩); (try rintro _ rfl)) | (refine wrap_succ ?_; omega))))
  all_goals first
    | (exfalso; omega)
    | (conv => whnf
       rw [e]
       refine endM_turn (turn_box (id := 0) (ds := pB L (a + 1) false) rfl rfl rfl (.cons (.refl _) (.cons (.refl _) (.cons (.refl _) .nil)))) ?_
       exact endM_self ⟨rfl, rfl⟩)
    | trace_state
theorem takeI_f (L : List Tok) (hL : LexOk L) (a : Nat) (ha : a < L.length) (t : ByteArray) (hd : ¬ isDg (byI t 0)) (h : ¬ isT L t a) : RetM env.P 20 [some (boxRow (pB L a false))] [.ptr 0 0 0, .s t] (fun r H => r = .kb false ∧ H = [some (boxRow (pB L a false))]) := by
  refine ret_ofM (nt := 16) (rvs := [.tmp 4]) Tryd.func20 rfl rfl rfl rfl (fun X hX => ?_)
  repeat' (first | omega | (with_reducible show (_ : Int) < _; dsimp only; omega) | (with_reducible show (_ : Nat) ≤ _; dsimp only; omega) | ((with_reducible show SrcOk _ _ _) <;> (first | exact srcOk_1 rfl | exact srcOk_L (fun _ => ⟨rfl, rfl⟩) | exact srcOk_E (fun _ => ⟨rfl, rfl⟩))) | ((conv => whnf) <;> (first | refine And.intro ?_ ?_ | (intro _h; first | contradiction | (try simp only [dd] at _h)) | (refine dt_go ?_) | exact rfl | exact True.intro | exact dkk | exact dks | ((first | refine .inl ⟨_, Ret.wk (by exact .cons (tWk_rfcp rfl rfl) (.cons (.refl _) .nil)) ((isI_ok L hL a ha t hd).mono fun r e => e.trans (by rw [pb_f.mpr h])), ?_⟩ | refine ⟨_, Ret.wk (by exact .cons (tWk_rfcp rfl rfl) (.cons (.refl _) .nil)) ((isI_ok L hL a ha t hd).mono fun r e => e.trans (by rw [pb_f.mpr h])), ?_⟩); (try rintro _ rfl)) | (refine wrap_succ ?_; omega))))
  all_goals (conv => whnf)
  all_goals first | exact endM_self ⟨rfl, rfl⟩ | trace_state
theorem takeI_b (L : List Tok) (hL : LexOk L) (a : Nat) (ha : a < L.length) (t : ByteArray) : RetM env.P 20 [some (boxRow (pB L a true))] [.ptr 0 0 0, .s t] (fun r H => r = .kb false ∧ H = [some (boxRow (pB L a true))]) := by
  refine ret_ofM (nt := 16) (rvs := [.tmp 4]) Tryd.func20 rfl rfl rfl rfl (fun X hX => ?_)
  repeat' (first | omega | (with_reducible show (_ : Int) < _; dsimp only; omega) | (with_reducible show (_ : Nat) ≤ _; dsimp only; omega) | ((with_reducible show SrcOk _ _ _) <;> (first | exact srcOk_1 rfl | exact srcOk_L (fun _ => ⟨rfl, rfl⟩) | exact srcOk_E (fun _ => ⟨rfl, rfl⟩))) | ((conv => whnf) <;> (first | refine And.intro ?_ ?_ | (intro _h; first | contradiction | (try simp only [dd] at _h)) | (refine dt_go ?_) | exact rfl | exact True.intro | exact dkk | exact dks | ((first | refine .inl ⟨_, Ret.wk (by exact .cons (tWk_rfcp rfl rfl) (.cons (.refl _) .nil)) (isI_b L hL a ha t), ?_⟩ | refine ⟨_, Ret.wk (by exact .cons (tWk_rfcp rfl rfl) (.cons (.refl _) .nil)) (isI_b L hL a ha t), ?_⟩); (try rintro _ rfl)) | (refine wrap_succ ?_; omega))))
  all_goals (conv => whnf)
  all_goals first | exact endM_self ⟨rfl, rfl⟩ | trace_state
theorem takeI_o (L : List Tok) (hL : LexOk L) (a : Nat) (t : ByteArray) (hd : ¬ isDg (byI t 0)) (ha : a < L.length) : RetM env.P 20 [some (boxRow (pB L a false))] [.ptr 0 0 0, .s t] (fun r H => (isT L t a ∧ a + 1 < L.length ∧ r = .kb true ∧ H = [some (boxRow (pB L (a + 1) false))]) ∨ (¬ isT L t a ∧ r = .kb false ∧ H = [some (boxRow (pB L a false))])) := by
  by_cases h : isT L t a
  · exact (takeI_t L hL a ha t hd h).mono fun r H e => .inl ⟨h, hL.isT_lt ha h, e.1, e.2⟩
  · exact (takeI_f L hL a ha t hd h).mono fun r H e => .inr ⟨h, e.1, e.2⟩
end
section
open Go Go.Shelf
def lays146_ren : Go.Shelf.Ren := ⟨fun | 146 => 50 | 221 => 55 | 268 => 58 | 138 => 59 | 143 => 60 | 195 => 64 | 197 => 65 | 218 => 66 | 219 => 67 | 260 => 74 | 217 => 49 | 225 => 75 | 224 => 76 | 267 => 77 | 266 => 54 | 314 => 87 | n => n, fun | 9 => 9 | 31 => 66 | 3 => 3 | 4 => 4 | 0 => 0 | 105 => 79 | 21 => 21 | 5 => 5 | 46 => 85 | 119 => 100 | 139 => 103 | 138 => 102 | 146 => 105 | 51 => 104 | n => n, fun | 1 => 0 | 3 => 3 | 4 => 4 | n => n⟩
theorem lays146 : Lays.n146 Tryd.prog lays146_ren := {
  mixed := by kernel_rfl,
  f138 := Tryd.func59.trans (congrArg some (by kernel_rfl)),
  f143 := Tryd.func60.trans (congrArg some (by kernel_rfl)),
  f146 := Tryd.func50.trans (congrArg some (by kernel_rfl)),
  f195 := Tryd.func64.trans (congrArg some (by kernel_rfl)),
  f197 := Tryd.func65.trans (congrArg some (by kernel_rfl)),
  f217 := Tryd.func49.trans (congrArg some (by kernel_rfl)),
  f218 := Tryd.func66.trans (congrArg some (by kernel_rfl)),
  f219 := Tryd.func67.trans (congrArg some (by kernel_rfl)),
  f221 := Tryd.func55.trans (congrArg some (by kernel_rfl)),
  f224 := Tryd.func76.trans (congrArg some (by kernel_rfl)),
  f225 := Tryd.func75.trans (congrArg some (by kernel_rfl)),
  f260 := Tryd.func74.trans (congrArg some (by kernel_rfl)),
  f266 := Tryd.func54.trans (congrArg some (by kernel_rfl)),
  f267 := Tryd.func77.trans (congrArg some (by kernel_rfl)),
  f268 := Tryd.func58.trans (congrArg some (by kernel_rfl)),
  f314 := Tryd.func87.trans (congrArg some (by kernel_rfl)),
  t0 := Tryd.underlying0,
  a0 := Tryd.isAgg0,
  z0 := Tryd.sizeOf0,
  v0 := Tryd.zeroValue0,
  t3 := Tryd.underlying3,
  a3 := Tryd.isAgg3,
  z3 := Tryd.sizeOf3,
  v3 := Tryd.zeroValue3,
  t4 := Tryd.underlying4,
  a4 := Tryd.isAgg4,
  z4 := Tryd.sizeOf4,
  v4 := Tryd.zeroValue4,
  t5 := Tryd.underlying5,
  a5 := Tryd.isAgg5,
  z5 := Tryd.sizeOf5,
  v5 := Tryd.zeroValue5,
  t9 := Tryd.underlying9,
  a9 := Tryd.isAgg9,
  z9 := Tryd.sizeOf9,
  v9 := Tryd.zeroValue9,
  t21 := Tryd.underlying21,
  a21 := Tryd.isAgg21,
  z21 := Tryd.sizeOf21,
  v21 := Tryd.zeroValue21,
  t31 := Tryd.underlying66,
  a31 := Tryd.isAgg66,
  z31 := Tryd.sizeOf66,
  v31 := Tryd.zeroValue66,
  t46 := Tryd.underlying85,
  a46 := Tryd.isAgg85,
  z46 := Tryd.sizeOf85,
  v46 := Tryd.zeroValue85,
  t51 := Tryd.underlying104,
  a51 := Tryd.isAgg104,
  z51 := Tryd.sizeOf104,
  v51 := Tryd.zeroValue104,
  t105 := Tryd.underlying79,
  a105 := Tryd.isAgg79,
  z105 := Tryd.sizeOf79,
  v105 := Tryd.zeroValue79,
  t119 := Tryd.underlying100,
  a119 := Tryd.isAgg100,
  z119 := Tryd.sizeOf100,
  t138 := Tryd.underlying102,
  a138 := Tryd.isAgg102,
  z138 := Tryd.sizeOf102,
  v138 := Tryd.zeroValue102,
  t139 := Tryd.underlying103,
  a139 := Tryd.isAgg103,
  z139 := Tryd.sizeOf103,
  v139 := Tryd.zeroValue103,
  t146 := Tryd.underlying105,
  a146 := Tryd.isAgg105,
  z146 := Tryd.sizeOf105,
  v146 := Tryd.zeroValue105,
  g1 := by kernel_rfl,
  g3 := by kernel_rfl,
  g4 := by kernel_rfl }
def laysC174_ren : Go.Shelf.Ren := ⟨fun | 174 => 56 | 247 => 61 | 245 => 62 | 287 => 68 | 279 => 69 | 280 => 70 | 281 => 71 | 282 => 72 | 321 => 78 | 322 => 79 | 316 => 80 | 171 => 82 | 205 => 81 | 243 => 88 | 246 => 73 | 283 => 83 | 284 => 84 | 285 => 85 | 286 => 86 | 129 => 90 | 317 => 89 | 318 => 91 | 319 => 92 | 320 => 93 | 337 => 94 | 338 => 95 | n => n, fun | 9 => 9 | 3 => 3 | 2 => 2 | 75 => 70 | 85 => 71 | 4 => 4 | 167 => 81 | 5 => 5 | 53 => 82 | 175 => 83 | 46 => 85 | 168 => 86 | 37 => 73 | 0 => 0 | 210 => 92 | 21 => 21 | 127 => 107 | 145 => 110 | 143 => 108 | 171 => 95 | 173 => 98 | 212 => 112 | 51 => 104 | 20 => 20 | 213 => 113 | 232 => 117 | 233 => 118 | 80 => 46 | n => n, fun | 15 => 1 | 16 => 2 | 17 => 5 | 18 => 6 | 19 => 7 | n => n⟩
theorem laysC174 : LaysC.n174 Tryd.prog laysC174_ren := {
  mixed := by kernel_rfl,
  f129 := Tryd.func90.trans (congrArg some (by kernel_rfl)),
  f171 := Tryd.func82.trans (congrArg some (by kernel_rfl)),
  f174 := Tryd.func56.trans (congrArg some (by kernel_rfl)),
  f205 := Tryd.func81.trans (congrArg some (by kernel_rfl)),
  f243 := Tryd.func88.trans (congrArg some (by kernel_rfl)),
  f245 := Tryd.func62.trans (congrArg some (by kernel_rfl)),
  f246 := Tryd.func73.trans (congrArg some (by kernel_rfl)),
  f247 := Tryd.func61.trans (congrArg some (by kernel_rfl)),
  f279 := Tryd.func69.trans (congrArg some (by kernel_rfl)),
  f280 := Tryd.func70.trans (congrArg some (by kernel_rfl)),
  f281 := Tryd.func71.trans (congrArg some (by kernel_rfl)),
  f282 := Tryd.func72.trans (congrArg some (by kernel_rfl)),
  f283 := Tryd.func83.trans (congrArg some (by kernel_rfl)),
  f284 := Tryd.func84.trans (congrArg some (by kernel_rfl)),
  f285 := Tryd.func85.trans (congrArg some (by kernel_rfl)),
  f286 := Tryd.func86.trans (congrArg some (by kernel_rfl)),
  f287 := Tryd.func68.trans (congrArg some (by kernel_rfl)),
  f316 := Tryd.func80.trans (congrArg some (by kernel_rfl)),
  f317 := Tryd.func89.trans (congrArg some (by kernel_rfl)),
  f318 := Tryd.func91.trans (congrArg some (by kernel_rfl)),
  f319 := Tryd.func92.trans (congrArg some (by kernel_rfl)),
  f320 := Tryd.func93.trans (congrArg some (by kernel_rfl)),
  f321 := Tryd.func78.trans (congrArg some (by kernel_rfl)),
  f322 := Tryd.func79.trans (congrArg some (by kernel_rfl)),
  f337 := Tryd.func94.trans (congrArg some (by kernel_rfl)),
  f338 := Tryd.func95.trans (congrArg some (by kernel_rfl)),
  t0 := Tryd.underlying0,
  a0 := Tryd.isAgg0,
  z0 := Tryd.sizeOf0,
  v0 := Tryd.zeroValue0,
  t2 := Tryd.underlying2,
  a2 := Tryd.isAgg2,
  z2 := Tryd.sizeOf2,
  v2 := Tryd.zeroValue2,
  t3 := Tryd.underlying3,
  a3 := Tryd.isAgg3,
  z3 := Tryd.sizeOf3,
  v3 := Tryd.zeroValue3,
  t4 := Tryd.underlying4,
  a4 := Tryd.isAgg4,
  z4 := Tryd.sizeOf4,
  v4 := Tryd.zeroValue4,
  t5 := Tryd.underlying5,
  a5 := Tryd.isAgg5,
  z5 := Tryd.sizeOf5,
  v5 := Tryd.zeroValue5,
  t9 := Tryd.underlying9,
  a9 := Tryd.isAgg9,
  z9 := Tryd.sizeOf9,
  v9 := Tryd.zeroValue9,
  t20 := Tryd.underlying20,
  a20 := Tryd.isAgg20,
  z20 := Tryd.sizeOf20,
  v20 := Tryd.zeroValue20,
  t21 := Tryd.underlying21,
  a21 := Tryd.isAgg21,
  z21 := Tryd.sizeOf21,
  v21 := Tryd.zeroValue21,
  t37 := Tryd.underlying73,
  a37 := Tryd.isAgg73,
  z37 := Tryd.sizeOf73,
  v37 := Tryd.zeroValue73,
  t46 := Tryd.underlying85,
  a46 := Tryd.isAgg85,
  z46 := Tryd.sizeOf85,
  v46 := Tryd.zeroValue85,
  t51 := Tryd.underlying104,
  a51 := Tryd.isAgg104,
  z51 := Tryd.sizeOf104,
  v51 := Tryd.zeroValue104,
  t53 := Tryd.underlying82,
  a53 := Tryd.isAgg82,
  z53 := Tryd.sizeOf82,
  v53 := Tryd.zeroValue82,
  t75 := Tryd.underlying70,
  a75 := Tryd.isAgg70,
  z75 := Tryd.sizeOf70,
  v75 := Tryd.zeroValue70,
  t85 := Tryd.underlying71,
  a85 := Tryd.isAgg71,
  z85 := Tryd.sizeOf71,
  v85 := Tryd.zeroValue71,
  t127 := Tryd.underlying107,
  a127 := Tryd.isAgg107,
  z127 := Tryd.sizeOf107,
  v127 := Tryd.zeroValue107,
  t143 := Tryd.underlying108,
  a143 := Tryd.isAgg108,
  z143 := Tryd.sizeOf108,
  v143 := Tryd.zeroValue108,
  t145 := Tryd.underlying110,
  a145 := Tryd.isAgg110,
  z145 := Tryd.sizeOf110,
  v145 := Tryd.zeroValue110,
  t167 := Tryd.underlying81,
  a167 := Tryd.isAgg81,
  z167 := Tryd.sizeOf81,
  v167 := Tryd.zeroValue81,
  t168 := Tryd.underlying86,
  a168 := Tryd.isAgg86,
  z168 := Tryd.sizeOf86,
  v168 := Tryd.zeroValue86,
  t171 := Tryd.underlying95,
  a171 := Tryd.isAgg95,
  z171 := Tryd.sizeOf95,
  v171 := Tryd.zeroValue95,
  t173 := Tryd.underlying98,
  a173 := Tryd.isAgg98,
  z173 := Tryd.sizeOf98,
  v173 := Tryd.zeroValue98,
  t175 := Tryd.underlying83,
  a175 := Tryd.isAgg83,
  z175 := Tryd.sizeOf83,
  v175 := Tryd.zeroValue83,
  t210 := Tryd.underlying92,
  a210 := Tryd.isAgg92,
  z210 := Tryd.sizeOf92,
  v210 := Tryd.zeroValue92,
  t212 := Tryd.underlying112,
  a212 := Tryd.isAgg112,
  z212 := Tryd.sizeOf112,
  v212 := Tryd.zeroValue112,
  t213 := Tryd.underlying113,
  a213 := Tryd.isAgg113,
  z213 := Tryd.sizeOf113,
  t232 := Tryd.underlying117,
  a232 := Tryd.isAgg117,
  z232 := Tryd.sizeOf117,
  v232 := Tryd.zeroValue117,
  t233 := Tryd.underlying118,
  a233 := Tryd.isAgg118,
  z233 := Tryd.sizeOf118,
  v233 := Tryd.zeroValue118,
  g15 := by kernel_rfl,
  g16 := by kernel_rfl,
  g17 := by kernel_rfl,
  g18 := by kernel_rfl,
  g19 := by kernel_rfl,
  t80 := Tryd.underlying46,
  a80 := Tryd.isAgg46,
  z80 := Tryd.sizeOf46,
  v80 := Tryd.zeroValue46,
  i0 := by kernel_rfl,
  i2 := by kernel_rfl,
  i3 := by kernel_rfl,
  i4 := by kernel_rfl,
  i5 := by kernel_rfl,
  i9 := by kernel_rfl,
  i20 := by kernel_rfl,
  i21 := by kernel_rfl,
  i37 := by kernel_rfl,
  i46 := by kernel_rfl,
  i51 := by kernel_rfl,
  i53 := by kernel_rfl,
  i75 := by kernel_rfl,
  i80 := by kernel_rfl,
  i85 := by kernel_rfl,
  i127 := by kernel_rfl,
  i143 := by kernel_rfl,
  i145 := by kernel_rfl,
  i167 := by kernel_rfl,
  i168 := by kernel_rfl,
  i171 := by kernel_rfl,
  i173 := by kernel_rfl,
  i175 := by kernel_rfl,
  i210 := by kernel_rfl,
  i212 := by kernel_rfl,
  i232 := by kernel_rfl,
  i233 := by kernel_rfl,
  m15 := by kernel_rfl,
  m16 := by kernel_rfl,
  m17 := by kernel_rfl,
  m18 := by kernel_rfl,
  m19 := by kernel_rfl,
  c0 := by kernel_rfl,
  c2 := by kernel_rfl,
  c3 := by kernel_rfl,
  c4 := by kernel_rfl,
  c5 := by kernel_rfl,
  c9 := by kernel_rfl,
  c20 := by kernel_rfl,
  c21 := by kernel_rfl,
  c37 := by kernel_rfl,
  c46 := by kernel_rfl,
  c51 := by kernel_rfl,
  c53 := by kernel_rfl,
  c75 := by kernel_rfl,
  c80 := by kernel_rfl,
  c85 := by kernel_rfl,
  c127 := by kernel_rfl,
  c143 := by kernel_rfl,
  c145 := by kernel_rfl,
  c167 := by kernel_rfl,
  c168 := by kernel_rfl,
  c171 := by kernel_rfl,
  c173 := by kernel_rfl,
  c175 := by kernel_rfl,
  c210 := by kernel_rfl,
  c212 := by kernel_rfl,
  c213 := by kernel_rfl,
  c232 := by kernel_rfl,
  c233 := by kernel_rfl }
def laysM173_ren : Go.Shelf.Ren := ⟨fun | 173 => 63 | 246 => 73 | 283 => 83 | 284 => 84 | 285 => 85 | 286 => 86 | 129 => 90 | 317 => 89 | 318 => 91 | 319 => 92 | 320 => 93 | 337 => 94 | 338 => 95 | n => n, fun | 2 => 2 | 3 => 3 | 9 => 9 | 4 => 4 | 171 => 95 | 0 => 0 | 53 => 82 | 37 => 73 | 5 => 5 | 173 => 98 | 212 => 112 | 51 => 104 | 20 => 20 | 213 => 113 | 46 => 85 | 232 => 117 | 233 => 118 | n => n, fun | 17 => 5 | 18 => 6 | 19 => 7 | n => n⟩
theorem laysM173 : LaysM.n173 Tryd.prog laysM173_ren := {
  mixed := by kernel_rfl,
  f129 := Tryd.func90.trans (congrArg some (by kernel_rfl)),
  f173 := Tryd.func63.trans (congrArg some (by kernel_rfl)),
  f246 := Tryd.func73.trans (congrArg some (by kernel_rfl)),
  f283 := Tryd.func83.trans (congrArg some (by kernel_rfl)),
  f284 := Tryd.func84.trans (congrArg some (by kernel_rfl)),
  f285 := Tryd.func85.trans (congrArg some (by kernel_rfl)),
  f286 := Tryd.func86.trans (congrArg some (by kernel_rfl)),
  f317 := Tryd.func89.trans (congrArg some (by kernel_rfl)),
  f318 := Tryd.func91.trans (congrArg some (by kernel_rfl)),
  f319 := Tryd.func92.trans (congrArg some (by kernel_rfl)),
  f320 := Tryd.func93.trans (congrArg some (by kernel_rfl)),
  f337 := Tryd.func94.trans (congrArg some (by kernel_rfl)),
  f338 := Tryd.func95.trans (congrArg some (by kernel_rfl)),
  t0 := Tryd.underlying0,
  a0 := Tryd.isAgg0,
  z0 := Tryd.sizeOf0,
  v0 := Tryd.zeroValue0,
  t2 := Tryd.underlying2,
  a2 := Tryd.isAgg2,
  z2 := Tryd.sizeOf2,
  v2 := Tryd.zeroValue2,
  t3 := Tryd.underlying3,
  a3 := Tryd.isAgg3,
  z3 := Tryd.sizeOf3,
  v3 := Tryd.zeroValue3,
  t4 := Tryd.underlying4,
  a4 := Tryd.isAgg4,
  z4 := Tryd.sizeOf4,
  v4 := Tryd.zeroValue4,
  t5 := Tryd.underlying5,
  a5 := Tryd.isAgg5,
  z5 := Tryd.sizeOf5,
  v5 := Tryd.zeroValue5,
  t9 := Tryd.underlying9,
  a9 := Tryd.isAgg9,
  z9 := Tryd.sizeOf9,
  v9 := Tryd.zeroValue9,
  t20 := Tryd.underlying20,
  a20 := Tryd.isAgg20,
  z20 := Tryd.sizeOf20,
  v20 := Tryd.zeroValue20,
  t37 := Tryd.underlying73,
  a37 := Tryd.isAgg73,
  z37 := Tryd.sizeOf73,
  v37 := Tryd.zeroValue73,
  t46 := Tryd.underlying85,
  a46 := Tryd.isAgg85,
  z46 := Tryd.sizeOf85,
  v46 := Tryd.zeroValue85,
  t51 := Tryd.underlying104,
  a51 := Tryd.isAgg104,
  z51 := Tryd.sizeOf104,
  v51 := Tryd.zeroValue104,
  t53 := Tryd.underlying82,
  a53 := Tryd.isAgg82,
  z53 := Tryd.sizeOf82,
  v53 := Tryd.zeroValue82,
  t171 := Tryd.underlying95,
  a171 := Tryd.isAgg95,
  z171 := Tryd.sizeOf95,
  v171 := Tryd.zeroValue95,
  t173 := Tryd.underlying98,
  a173 := Tryd.isAgg98,
  z173 := Tryd.sizeOf98,
  v173 := Tryd.zeroValue98,
  t212 := Tryd.underlying112,
  a212 := Tryd.isAgg112,
  z212 := Tryd.sizeOf112,
  v212 := Tryd.zeroValue112,
  t213 := Tryd.underlying113,
  a213 := Tryd.isAgg113,
  z213 := Tryd.sizeOf113,
  t232 := Tryd.underlying117,
  a232 := Tryd.isAgg117,
  z232 := Tryd.sizeOf117,
  v232 := Tryd.zeroValue117,
  t233 := Tryd.underlying118,
  a233 := Tryd.isAgg118,
  z233 := Tryd.sizeOf118,
  v233 := Tryd.zeroValue118,
  g17 := by kernel_rfl,
  g18 := by kernel_rfl,
  g19 := by kernel_rfl,
  i0 := by kernel_rfl,
  i2 := by kernel_rfl,
  i3 := by kernel_rfl,
  i4 := by kernel_rfl,
  i5 := by kernel_rfl,
  i9 := by kernel_rfl,
  i20 := by kernel_rfl,
  i37 := by kernel_rfl,
  i46 := by kernel_rfl,
  i51 := by kernel_rfl,
  i53 := by kernel_rfl,
  i171 := by kernel_rfl,
  i173 := by kernel_rfl,
  i212 := by kernel_rfl,
  i232 := by kernel_rfl,
  i233 := by kernel_rfl,
  m17 := by kernel_rfl,
  m18 := by kernel_rfl,
  m19 := by kernel_rfl }
end
section
open Go
def dg (n : Nat) : List UInt8 := if n < 10 then [UInt8.ofNat (48 + n)] else if n < 100 then [UInt8.ofNat (48 + n / 10), UInt8.ofNat (48 + n % 10)] else [UInt8.ofNat (48 + n / 100), UInt8.ofNat (48 + n / 10 % 10), UInt8.ofNat (48 + n % 10)]
def pdN (l : List UInt8) : Nat := l.foldl (fun n c => 10 * n + (c.toNat - 48)) 0
def pd (l : List UInt8) : Option Nat := if pdN l < 1000 ∧ dg (pdN l) = l then some (pdN l) else none
theorem pd_some {l : List UInt8} {m : Nat} (h : pd l = some m) : m < 1000 ∧ l = dg m := by
  unfold pd at h
  split at h
  · rename_i q
    cases h
    exact ⟨q.1, q.2.symm⟩
  · cases h
theorem pd_dg : ∀ m < 1000, pd (dg m) = some m := by decide +kernel
def okN : Lib.NumEnd Int → Int → Bool
  | .ok v, m => v == m
  | _, _ => false
theorem okN_eq {x : Lib.NumEnd Int} {m : Int} (h : okN x m = true) : x = .ok m := by
  cases x
  · unfold okN at h; rw [beq_iff_eq] at h; rw [h]
  · cases h
  · cases h
theorem parse_dgB : ∀ m < 1000, okN (Lib.parseIntB 64 (dg m)) (m : Nat) = true := by decide +kernel
theorem parse_dg {m : Nat} (h : m < 1000) : Lib.parseIntB 64 (dg m) = .ok (m : Int) := okN_eq (parse_dgB m h)
theorem decDigits_dg {m : Nat} (h : m < 1000) : Lib.decDigits m = dg m := by
  unfold dg
  by_cases h1 : m < 10
  · rw [if_pos h1, Lib.decDigits, dif_pos h1]
  · rw [if_neg h1, Lib.decDigits, dif_neg h1]
    by_cases h2 : m < 100
    · rw [if_pos h2, Lib.decDigits, dif_pos (by omega)]
      rfl
    · rw [if_neg h2, Lib.decDigits, dif_neg (by omega), Lib.decDigits, dif_pos (by omega)]
      rw [Nat.div_div_eq_div_mul]
      rfl
theorem itoa_dg {m : Nat} (h : m < 1000) : Lib.itoa (m : Int) = dg m := by
  unfold Lib.itoa
  rw [if_neg (by omega), Int.toNat_natCast, decDigits_dg h]
def dotB : ByteArray := ⟨#[46]⟩
def parts (s : ByteArray) : List ByteArray := Lib.splitB dotB 0 (Lib.countB s dotB) s
def pdB (s : ByteArray) : Option Nat := pd s.data.toList
def vnum (s : ByteArray) : Option Nat := match parts s with
  | [p, q, r] => match pdB p, pdB q, pdB r with
    | some a, some b, some c => some ((a * 1000 + b) * 1000 + c)
    | _, _, _ => none
  | _ => none
theorem piece_size (sep : ByteArray) : ∀ (k : Nat) (s : ByteArray) (p : ByteArray), p ∈ Lib.splitB sep 0 k s → p.size ≤ s.size
  | 0, s, p, h => by
    rw [Lib.splitB_zero] at h
    rw [List.mem_singleton.1 h]
    exact Nat.le_refl _
  | k + 1, s, p, h => by
    unfold Lib.splitB at h
    split at h
    · rw [List.mem_singleton.1 h]
      exact Nat.le_refl _
    · rcases List.mem_cons.1 h with rfl | h
      · rw [ByteArray.size_extract]; omega
      · have := piece_size sep k _ p h
        rw [ByteArray.size_extract] at this
        omega
theorem parts_size {s p : ByteArray} (h : p ∈ parts s) : p.size ≤ s.size := piece_size _ _ _ _ h
def dgB (n : Nat) : ByteArray := ⟨(dg n).toArray⟩
def vtext (n : Nat) : ByteArray := dgB (n / 1000000) ++ dotB ++ dgB (n / 1000 % 1000) ++ dotB ++ dgB (n % 1000)
structure Rng where
  low : Int
  below : Int
deriving DecidableEq
def opEq : ByteArray := ⟨#[61]⟩
def opGt : ByteArray := ⟨#[62]⟩
def opHat : ByteArray := ⟨#[94]⟩
def opTl : ByteArray := ⟨#[126]⟩
def belowN (o : ByteArray) (n : Nat) : Nat :=
  if o = opEq then n + 1 else if o = opGt then 1000000000 else if o = opHat then (if 1000000 ≤ n then n / 1000000 * 1000000 + 1000000 else n / 1000 * 1000 + 1000) else if o = opTl then n / 1000 * 1000 + 1000 else 0
def opsV4 : List ByteArray := [⟨#[61]⟩, ⟨#[126]⟩, ⟨#[94]⟩, ⟨#[62]⟩]
end
section
open Go Go.RowKit Go.Shelf
def i64V (n : Int) : Prop := -9223372036854775808 ≤ n ∧ n < 9223372036854775808
theorem below_growN (w : World) (k : Nat) (os : Array Obj) : Below w.heap.size w (Go.Sort.grow (w.drewN k) os) := ⟨rfl, rfl, rfl, by simp [Go.Sort.grow], fun i hi => by
  show (w.heap ++ os)[i]? = _
  rw [Array.getElem?_append_left hi]⟩
theorem split_ok (s : ByteArray) (hs : s.size < 4294967281) : Ret env.P 50 [.s s, .s dotB] (fun r => r = slL 1 strC (parts s)) := .mk fun w S us hS hc => by
  obtain ⟨u, v, rfl, h1, h2⟩ := concL_2 hc
  obtain ⟨rfl, _⟩ := inv_s h1
  obtain ⟨rfl, _⟩ := inv_s h2
  obtain ⟨m, hm⟩ := hS.gl.now.ml
  have hln : (parts s).length = Lib.countB s dotB + 1 := Lib.splitB_all dotB (by decide) 0 _ s rfl
  have hle := Lib.countB_le dotB (by decide) s.size s (Nat.le_refl _)
  have hmx : (4294967281 : Nat) ≤ maxLen := by decide
  refine (Any.strings_Split lays146 (by kernel_rfl) s dotB m w hs hm (by decide)).mono ?_
  rintro e w' ⟨rfl, rfl⟩
  refine ⟨_, _, rfl, rfl, ?_, (Below.refl _ w).alloc (Nat.le_refl _) _⟩
  unfold slL
  rw [hln]
  refine .sl w.heap.size 0 _ (fun i j => .string ((parts s).getD i default)) (.inr ⟨Nat.le_refl _, by simp⟩) (Nat.le_refl _) (by omega) (fun i j hi hj => ?_) (fun i j hi hj => ?_) (fun i j hi hj => ?_)
  · obtain rfl : j = 0 := Nat.lt_one_iff.1 hj
    have hi' : i < (parts s).length := by omega
    have e : (w.alloc (.cells ((parts s).map Value.string).toArray 9)).cell? ⟨w.heap.size, 0 + i * 1 + 0, none⟩ = ((parts s).map Value.string).toArray[0 + i * 1 + 0]? := by simp
    refine e.trans ?_
    simp [List.getD_eq_getElem?_getD, List.getElem?_eq_getElem hi']
  · obtain rfl : j = 0 := Nat.lt_one_iff.1 hj
    trivial
  · obtain rfl : j = 0 := Nat.lt_one_iff.1 hj
    have hi' : i < (parts s).length := by omega
    have := parts_size (s := s) (p := (parts s).getD i default) (by rw [List.getD_eq_getElem?_getD, List.getElem?_eq_getElem hi']; exact List.getElem_mem hi')
    exact .s (by omega)
def rdV (s : ByteArray) : Int × Bool := match Lib.parseIntB 64 s.data.toList with
  | .ok v => if (⟨(Lib.itoa v).toArray⟩ : ByteArray) = s then (v, true) else (0, false)
  | _ => (0, false)
theorem rdV_some {s : ByteArray} {m : Nat} (h : pdB s = some m) : rdV s = ((m : Int), true) := by
  obtain ⟨h1, h2⟩ := pd_some h
  unfold rdV
  rw [h2, parse_dg h1]
  dsimp only
  rw [itoa_dg h1, if_pos]
  apply ByteArray.ext
  show (dg m).toArray = s.data
  rw [← h2]
theorem rdV_ok {s : ByteArray} {v : Int} (hp : Lib.parseIntB 64 s.data.toList = .ok v) (hq : (⟨(Lib.itoa v).toArray⟩ : ByteArray) = s) : rdV s = (v, true) := by
  unfold rdV; rw [hp]; dsimp only; rw [if_pos hq]
theorem rdV_f1 {s : ByteArray} {v : Int} (hp : Lib.parseIntB 64 s.data.toList = .ok v) (hq : ¬ (⟨(Lib.itoa v).toArray⟩ : ByteArray) = s) : rdV s = (0, false) := by
  unfold rdV; rw [hp]; dsimp only; rw [if_neg hq]
theorem rdV_f2 {s : ByteArray} (hp : ∀ v, Lib.parseIntB 64 s.data.toList ≠ .ok v) : rdV s = (0, false) := by
  unfold rdV
  split
  · exact absurd ‹_› (hp _)
  · rfl
theorem rdV_none {s : ByteArray} (h : pdB s = none) : ¬ ((rdV s).2 = true ∧ 0 ≤ (rdV s).1 ∧ (rdV s).1 ≤ 999) := by
  rintro ⟨h1, h2, h3⟩
  cases hp : Lib.parseIntB 64 s.data.toList
  · rename_i v
    by_cases hq : (⟨(Lib.itoa v).toArray⟩ : ByteArray) = s
    · rw [rdV_ok hp hq] at h2 h3
      dsimp only at h2 h3
      obtain ⟨k, rfl⟩ := Int.eq_ofNat_of_zero_le h2
      have hk : k < 1000 := by omega
      have e : s.data.toList = dg k := by rw [← hq, itoa_dg hk]
      unfold pdB at h
      rw [e, pd_dg k hk] at h
      cases h
    · rw [rdV_f1 hp hq] at h1; cases h1
  · rw [rdV_f2 (fun v q => by rw [hp] at q; cases q)] at h1; cases h1
  · rw [rdV_f2 (fun v q => by rw [hp] at q; cases q)] at h1; cases h1
theorem ne_of {l : List UInt8} {s : ByteArray} (hq : ¬ (⟨l.toArray⟩ : ByteArray) = s) : (l == s.toList) = false := by
  rw [ByteArray.toList_eq, beq_eq_false_iff_ne]
  intro e
  apply hq
  apply ByteArray.ext
  show l.toArray = s.data
  rw [e]
theorem parse_r {l : List UInt8} {v : Int} (h : Lib.parseIntB 64 l = .ok v) : i64V v := by
  unfold Lib.parseIntB at h
  have e : (2 : Nat) ^ (64 - 1) = 9223372036854775808 := by decide
  split at h
  · cases h
  · dsimp only at h
    rw [e] at h
    split at h
    · cases h
    · cases h
    · split at h
      · cases h
      · split at h
        · cases h
        · cases h
          unfold i64V
          split <;> (constructor <;> omega)
set_option maxRecDepth 100000 in
set_option maxHeartbeats 1000000 in
theorem decimal_calls (n : Int) (h : i64V n) (w : World) (hl : Lw w) : Calls Tryd.prog 57 #[.int .i64 n] w fun e w' => e = .returned (.string ⟨(Lib.itoa n).toArray⟩) ∧ Below w.heap.size w w' := by
  go_enter Tryd.func57, Tryd.ntmps57
  go_wp2_with (go_at_call 63; refine (Any.strconv_FormatInt_10 laysM173 n (by have := h.1; omega) (by have := h.2; omega) _ hl.tab).mono ?_; rintro e w1 ⟨rfl, k, os, rfl⟩)
  go_ret
  exact ⟨rfl, below_growN w k os⟩
set_option maxRecDepth 100000 in
set_option maxHeartbeats 1000000 in
theorem rd_walk (s : ByteArray) (hs : s.size ≤ 281474976710656) (w : World) (hl : Lw w) (hl' : ∀ W, Below w.heap.size w W → Lw W) : Calls Tryd.prog 51 #[.string s] w fun e w' => e = .returned (.tuple #[.int .i64 (rdV s).1, .bool (rdV s).2]) ∧ Below w.heap.size w w' := by
  go_enter Tryd.func51, Tryd.ntmps51
  cases hp : Lib.parseIntB 64 s.data.toList
  · rename_i v
    have hv := parse_r hp
    go_wp2_with (go_at_call 56; refine (Any.strconv_ParseInt_10_at64_ok laysC174 s (by omega) v hp _).mono ?_; rintro e w1 ⟨rfl, hw1⟩)
    have hb1 : Below w.heap.size w w1 := by
      rcases hw1 with rfl | ⟨t, rfl⟩
      · exact Below.refl _ _
      · exact Lib.bytesWorld_below _ _ _
    by_cases hq : (⟨(Lib.itoa v).toArray⟩ : ByteArray) = s
    · have hr := rdV_ok hp hq
      go_wp2_with (go_at_call 57; refine (decimal_calls v hv _ (hl' _ hb1)).mono ?_; rintro e w2 ⟨rfl, hb2⟩)
      go_ret2
      exact ⟨by rw [hr]; rfl, hb1.trans (hb2.mono hb1.size)⟩
    · have hr := rdV_f1 hp hq
      have hz := ne_of hq
      go_wp2_with (go_at_call 57; refine (decimal_calls v hv _ (hl' _ hb1)).mono ?_; rintro e w2 ⟨rfl, hb2⟩)
      go_ret2
      exact ⟨by rw [hr]; rfl, hb1.trans (hb2.mono hb1.size)⟩
  · have hr := rdV_f2 (s := s) (fun v q => by rw [hp] at q; cases q)
    obtain ⟨ev, h1, h2⟩ := hl.es
    go_wp2_with (go_at_call 56; refine (Any.strconv_ParseInt_10_at64_syntax laysC174 s hs hp ev _ h1 h2).mono ?_; rintro e w1 ⟨N, rfl, _, _, hb1⟩)
    go_ret2
    exact ⟨by rw [hr]; rfl, hb1⟩
  · have hr := rdV_f2 (s := s) (fun v q => by rw [hp] at q; cases q)
    obtain ⟨ev, h1, h2⟩ := hl.er
    go_wp2_with (go_at_call 56; refine (Any.strconv_ParseInt_10_at64_range laysC174 s hs hp ev _ h1 h2).mono ?_; rintro e w1 ⟨N, rfl, _, _, hb1⟩)
    go_ret2
    exact ⟨by rw [hr]; rfl, hb1⟩
end
end Go.Proofs.YtfaadafgbhmlfaaDoor
