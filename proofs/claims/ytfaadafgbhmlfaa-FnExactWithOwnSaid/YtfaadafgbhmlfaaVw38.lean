/- Texts for VWithOwnP. -/
import Derived.Test.YtfaadafgbhmlfaaVw27
import Derived.Test.YtfaadafgbhmlfaaVw35
import Derived.Test.YtfaadafgbhmlfaaVw37
namespace Go.Proofs.Ytfaadafgbhmlfaa
open Go Go.RowKit
set_option linter.unusedVariables false
set_option linter.unusedSimpArgs false
section
open Go Go.RowKit Go.Shelf
structure RowLike (w : World) (L : List Value) (b G : Nat) : Prop where
  ex : ∃ (cur : Array Value) (ty : TypeId), RowAt w b cur ty ∧ ∀ (k : Nat) (v : Value), L[k]? = some v → cur[k]? = some v
theorem RowLike.cell {w : World} {L : List Value} {b G : Nat} (h : RowLike w L b G) {k : Nat} {v : Value} (hk : L[k]? = some v) : w.cell? ⟨b, k, none⟩ = some v := by
  obtain ⟨cur, ty, h1, h2⟩ := h.ex
  rw [h1.cell]
  exact h2 k v hk
def insL (cs v : List Value) (i : Nat) : List Value := cs.take (3 * i) ++ v ++ cs.drop (3 * i)
def InsPost (w : World) (n : Nat) (L : List Value) (b : Nat) (e : Ending) (w' : World) : Prop := ∃ (nb G : Nat), e = .returned (.slice (some ⟨nb, 0, none⟩) (n + 1) G) ∧ n + 1 ≤ G ∧ G ≤ maxLen ∧ RowLike w' L nb G ∧ Keeps (fun k => k = b) w w' ∧ nb < w'.heap.size
theorem keeps_any {w w' : World} {b : Nat} (h : Keeps (fun _ => False) w w') : Keeps (fun k => k = b) w w' := ⟨h.os, h.tape, h.output, h.size, fun k hk _ => h.block k hk id⟩
theorem insB_at {cur v : List Value} {i n c k : Nat} (hl : cur.length = c * 3) (hv : v.length = 3) (hi : i < n) (hn : n + 1 ≤ c) (hk : k < 3 * (n + 1)) : (insB (insA cur i n) v i)[k]? = (insL (cur.take (3 * n)) v i)[k]? := by
  unfold insB insA insL
  simp only [List.getElem?_append, List.length_append, List.length_take, List.length_drop, List.getElem?_take, List.getElem?_drop, hl, hv]
  (repeat' split) <;> first | omega | rfl | (congr 1; omega)
theorem grwB_at {cur Z v : List Value} {i n G k : Nat} (hl : cur.length = n * 3) (hv : v.length = 3) (hi : i < n) (hn : n + 1 ≤ G) (hZ : Z.length = (G - i) * 3) (hk : k < 3 * (n + 1)) : (grwB (grwA cur Z v i) cur i n)[k]? = (insL (cur.take (3 * n)) v i)[k]? := by
  unfold grwB grwA insL
  simp only [List.getElem?_append, List.length_append, List.length_take, List.length_drop, List.getElem?_take, List.getElem?_drop, hl, hv, hZ]
  (repeat' split) <;> first | omega | rfl | (congr 1; omega)
theorem insL_len {cur v : List Value} {i n : Nat} (hl : 3 * n ≤ cur.length) (hv : v.length = 3) (hi : i ≤ n) : (insL (cur.take (3 * n)) v i).length = 3 * (n + 1) := by
  unfold insL
  simp only [List.length_append, List.length_take, List.length_drop, hv]
  omega
theorem ins_room (b n c i vb vc : Nat) (cur vcur : Array Value) (ty vty : TypeId) (w : World) (hi : i ≤ n) (hroom : n + 1 ≤ c) (hc63 : c ≤ maxLen) (hvb : vb ≠ b) (hb : RowAt w b cur ty) (hsz : cur.size = c * 3)
    (hv : w.heap[vb]? = some (.cells vcur vty (0, 0))) (hvs : vcur.size = 3) (h1 : ∀ u ∈ cur, u.oneCell' = true) (h1v : ∀ u ∈ vcur, u.oneCell' = true) :
    Calls Try.prog 15 #[.slice (some ⟨b, 0, none⟩) n c, .int .i64 i, .slice (some ⟨vb, 0, none⟩) 1 vc] w fun e w' => InsPost w n (insL (cur.toList.take (3 * n)) vcur.toList i) b e w' := by
  have hl : cur.toList.length = c * 3 := hsz
  have hvl : vcur.toList.length = 3 := hvs
  by_cases q : i = n
  · subst q
    refine (ins_end_room b i c vb vc cur vcur ty vty w hroom hc63 hb hsz hv hvs h1v).mono fun e w' ⟨he, hr, hk⟩ => ⟨b, c, he, hroom, hc63, ⟨_, ty, hr, fun k v hkv => ?_⟩, hk, hr.lt⟩
    unfold insL at hkv
    rw [List.take_take, Nat.min_self, List.drop_eq_nil_of_le (by rw [List.length_take]; omega), List.append_nil] at hkv
    rw [List.getElem?_toArray, show i * 3 = 3 * i by omega]
    rw [List.getElem?_append_left (List.getElem?_eq_some_iff.1 hkv).1]
    exact hkv
  · refine (ins_shift b n c i vb vc cur vcur ty vty w (by omega) hroom hc63 hvb hb hsz hv hvs h1 h1v).mono fun e w' ⟨he, hr, hk⟩ => ⟨b, c, he, hroom, hc63, ⟨_, ty, hr, fun k v hkv => ?_⟩, hk, hr.lt⟩
    have hlt := (List.getElem?_eq_some_iff.1 hkv).1
    rw [insL_len (by omega) hvl (by omega)] at hlt
    rw [List.getElem?_toArray, insB_at hl hvl (by omega) hroom hlt]
    exact hkv
theorem ins_full (b n i vb vc : Nat) (cur vcur : Array Value) (ty vty : TypeId) (w : World) (hi : i ≤ n) (hn : n ≤ 1000) (hb : RowAt w b cur ty) (hsz : cur.size = n * 3)
    (hv : w.heap[vb]? = some (.cells vcur vty (0, 0))) (hvs : vcur.size = 3) (h1 : ∀ u ∈ cur, u.oneCell' = true) (h1v : ∀ u ∈ vcur, u.oneCell' = true) :
    Calls Try.prog 15 #[.slice (some ⟨b, 0, none⟩) n n, .int .i64 i, .slice (some ⟨vb, 0, none⟩) 1 vc] w fun e w' => InsPost w n (insL (cur.toList.take (3 * n)) vcur.toList i) b e w' := by
  have hl : cur.toList.length = n * 3 := hsz
  have hvl : vcur.toList.length = 3 := hvs
  by_cases q : i = n
  · subst q
    refine (ins_end_grow (some ⟨b, 0, none⟩) i vb vc cur.toList vcur vty w hn hl (fun e => by cases e) (fun a e j v hj => by cases e; rw [add_mk, Nat.zero_add, hb.cell]; simpa using hj) hv hvs h1v).mono fun e w' ⟨G, Z, he, hG1, hG2, hZ, hr, hk⟩ => ⟨_, G, he, hG1, hG2, ⟨_, _, hr, fun k v hkv => ?_⟩, keeps_any hk, hr.lt⟩
    unfold insL at hkv
    rw [List.take_take, Nat.min_self, List.drop_eq_nil_of_le (by rw [List.length_take]; omega), List.append_nil, List.take_of_length_le (by omega)] at hkv
    rw [List.getElem?_toArray, List.getElem?_append_left (List.getElem?_eq_some_iff.1 hkv).1]
    exact hkv
  · refine (ins_grow b n i vb vc cur vcur ty vty w (by omega) hn hb hsz hv hvs h1 h1v).mono fun e w' ⟨G, Z, he, hG1, hG2, hZ, hZ1, hr, hk⟩ => ⟨_, G, he, hG1, hG2, ⟨_, _, hr, fun k v hkv => ?_⟩, keeps_any hk, hr.lt⟩
    have hlt := (List.getElem?_eq_some_iff.1 hkv).1
    rw [insL_len (by omega) hvl (by omega)] at hlt
    rw [List.getElem?_toArray, grwB_at hl hvl (by omega) hG1 hZ hlt]
    exact hkv
theorem ins_none (base : Option Addr) (vb vc : Nat) (vcur : Array Value) (vty : TypeId) (w : World) (b : Nat)
    (hv : w.heap[vb]? = some (.cells vcur vty (0, 0))) (hvs : vcur.size = 3) (h1v : ∀ u ∈ vcur, u.oneCell' = true) :
    Calls Try.prog 15 #[.slice base 0 0, .int .i64 (0 : Nat), .slice (some ⟨vb, 0, none⟩) 1 vc] w fun e w' => InsPost w 0 vcur.toList b e w' := by
  refine (ins_end_grow base 0 vb vc [] vcur vty w (by omega) rfl (fun _ => rfl) (fun a e j v hj => by simp at hj) hv hvs h1v).mono fun e w' ⟨G, Z, he, hG1, hG2, hZ, hr, hk⟩ => ⟨_, G, he, hG1, hG2, ⟨_, _, hr, fun k v hkv => ?_⟩, keeps_any hk, hr.lt⟩
  rw [List.getElem?_toArray, List.nil_append, List.getElem?_append_left (List.getElem?_eq_some_iff.1 hkv).1]
  exact hkv
end
end Go.Proofs.Ytfaadafgbhmlfaa
