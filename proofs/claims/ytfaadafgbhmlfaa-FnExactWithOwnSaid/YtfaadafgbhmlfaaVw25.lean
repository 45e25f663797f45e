/- Texts for VWithOwnP. -/
import Derived.Lib.Overlaps
import Derived.Lib.AppendZerosOnto
import Derived.Shelf.Spec.SlicesInsert
import Derived.Test.YtfaadafgbhmlfaaVw24
namespace Go.Proofs.Ytfaadafgbhmlfaa
open Go Go.RowKit
set_option linter.unusedVariables false
set_option linter.unusedSimpArgs false
section
open Go Go.RowKit Go.Shelf
theorem run_copyZ {P : Program} (w : World) (dT sT ty elem : TypeId) (g o dLen dCap : Nat) (a : Addr) (sLen sCap sz : Nat) (cur : Array Value) (t : TypeId) (cs : List Value)
    (hu : P.underlying dT = some (.slice elem)) (hs : (P.info? elem).map (·.size) = some sz)
    (hg : RowAt w g cur t) (hn : cs.length = Nat.min sLen dLen * sz)
    (hsrc : ∀ j v, cs[j]? = some v → w.cell? (a.add j) = some v) (hfit : o + cs.length ≤ cur.size) (h1 : ∀ v ∈ cs, v.oneCell' = true) :
    (Builtin.copy_ #[dT, sT] ty #[.slice (some ⟨g, o, none⟩) dLen dCap, .slice (some a) sLen sCap]).run P w =
      .ok (goInt (Nat.min sLen dLen)) (w.setRow g (cur.toList.take o ++ cs ++ cur.toList.drop (o + cs.length)).toArray) := by
  have hl := run_loadCells_list (P := P) w a cs hsrc
  have hst := run_storeZ P g o t cs 0 cur w hg (by simpa using hfit) h1
  cases hq : P.info? elem with
  | none => simp [hq] at hs
  | some i =>
    have hi : i.size = sz := by simpa [hq] using hs
    rw [hn] at hl
    simp [Builtin.copy_, run_underlying hu, Builtin.lenOf, Builtin.firstCells, sizeOf, typeInfo, hq, hi, hl, hst]
theorem size_sec : (Try.prog.info? 31).map (·.size) = some 3 := by kernel_rfl
theorem sizeOf_sec (w : World) : (Go.sizeOf 31).run Try.prog w = .ok 3 w := by
  have h := size_sec
  cases hq : Try.prog.info? 31 with
  | none => rw [hq] at h; cases h
  | some i =>
    rw [hq] at h
    have hi : i.size = 3 := by simpa using h
    simp [sizeOf, typeInfo, hq, hi]
theorem ov_apart (w : World) (vb b vc : Nat) (vcur cur : Array Value) (ty vty : TypeId) (hvb : vb ≠ b) (hb : RowAt w b cur ty) (hsz : cur.size ≠ 0) (hv : w.heap[vb]? = some (.cells vcur vty (0, 0))) (o lb cb : Nat) :
    (callFunc 28 #[.slice (some ⟨vb, 0, none⟩) 1 vc, .slice (some ⟨b, o, none⟩) lb cb]).run Try.prog w = .ok (.value (.bool false)) w := by
  obtain ⟨fz, hb1, hb2⟩ := hb
  rw [run_callFunc_extern Try.func28 (by kernel_rfl) (by kernel_rfl) (by kernel_rfl) (e := Extern.SlicesOverlaps.overlaps #[25, 25] #[4]) (by kernel_rfl),
    Lib.run_overlaps_apart w 25 4 31 Try.underlying25 3 sizeOf_sec ⟨vb, 0, none⟩ ⟨b, o, none⟩ 1 vc lb cb hvb vty ty vcur.size cur.size (by simp [World.shape?, hv]) (by simp [World.shape?, hb1]) hsz (by simp [World.frozen?, hv]) (by simp [World.frozen?, hv])]
  rfl
theorem cell_setRow_ne {w : World} {b vb k : Nat} {A : Array Value} (h : vb ≠ b) : (w.setRow b A).cell? ⟨vb, k, none⟩ = w.cell? ⟨vb, k, none⟩ := by
  have e : (w.setRow b A).heap[vb]? = w.heap[vb]? := by
    unfold World.setRow
    simp [Array.getElem?_modify, Ne.symm h]
  simp only [World.cell?, e]
theorem keeps_setRow {w : World} {b : Nat} {A : Array Value} : Keeps (fun k => k = b) w (w.setRow b A) := ⟨rfl, rfl, rfl, by unfold World.setRow; simp, fun k _ hk => by unfold World.setRow; simp [Array.getElem?_modify, Ne.symm hk]⟩
theorem keeps_drew {m : Nat → Prop} {w : World} : Keeps m w w.drew := ⟨rfl, rfl, rfl, Nat.le_refl _, fun _ _ _ => rfl⟩
theorem Keeps.trans {m : Nat → Prop} {a b c : World} (h : Keeps m a b) (k : Keeps m b c) : Keeps m a c := ⟨k.os.trans h.os, k.tape.trans h.tape, k.output.trans h.output, Nat.le_trans h.size k.size, fun x hx hm => (k.block x (Nat.lt_of_lt_of_le hx h.size) hm).trans (h.block x hx hm)⟩
def insA (cur : List Value) (i n : Nat) : List Value := cur.take (3 * (i + 1)) ++ (cur.drop (3 * i)).take (3 * (n - i)) ++ cur.drop (3 * (n + 1))
def insB (cur v : List Value) (i : Nat) : List Value := cur.take (3 * i) ++ v ++ cur.drop (3 * (i + 1))
set_option maxHeartbeats 4000000 in
set_option maxRecDepth 100000 in
theorem ins_shift (b n c i vb vc : Nat) (cur vcur : Array Value) (ty vty : TypeId) (w : World) (hi : i < n) (hroom : n + 1 ≤ c) (hc63 : c ≤ maxLen) (hvb : vb ≠ b) (hb : RowAt w b cur ty) (hsz : cur.size = c * 3)
    (hv : w.heap[vb]? = some (.cells vcur vty (0, 0))) (hvs : vcur.size = 3) (h1 : ∀ u ∈ cur, u.oneCell' = true) (h1v : ∀ u ∈ vcur, u.oneCell' = true) :
    Calls Try.prog 15 #[.slice (some ⟨b, 0, none⟩) n c, .int .i64 i, .slice (some ⟨vb, 0, none⟩) 1 vc] w fun e w' =>
      e = .returned (.slice (some ⟨b, 0, none⟩) (n + 1) c) ∧ RowAt w' b (insB (insA cur.toList i n) vcur.toList i).toArray ty ∧ Keeps (fun k => k = b) w w' := by
  have hm63 : maxLen ≤ 9223372036854775807 := by decide
  have hz2 : ¬ ((i : Int) = (n : Int)) := by omega
  have hw1 : IntKind.i64.wrap ((i : Int) + 1) = (i : Int) + 1 := by rw [IntKind.wrap_i64]; omega
  have hw2 : IntKind.i64.wrap ((n : Int) + 1) = (n : Int) + 1 := by rw [IntKind.wrap_i64]; omega
  have hz3 : ¬ ((c : Int) < (n : Int) + 1) := by omega
  have mixed : Try.prog.follows Departure.mixedOrders = true := by kernel_rfl
  have u25 := run_underlying Try.underlying25
  have zS := sizeOf_sec
  have hb1 : (0 : Int) ≤ (i : Int) + 1 := by omega
  have hin : i ≤ n := by omega
  have htn : ((i : Int) + 1).toNat = i + 1 := by omega
  have hb2 : ¬ (c = i + 1) := by omega
  have hb3 : (i : Int) ≤ (n : Int) + 1 := by omega
  have hb4 : ¬ (c = i) := by omega
  have hl : cur.toList.length = c * 3 := hsz
  have hcell : ∀ k v, ((cur.toList.drop (3 * i)).take (3 * (n - i)))[k]? = some v → w.drew.cell? ((⟨b, i * 3, none⟩ : Addr).add k) = some v := fun k v hk => by
    have h2 : k < 3 * (n - i) := by
      rw [List.getElem?_take] at hk
      split at hk
      · assumption
      · cases hk
    rw [List.getElem?_take, if_pos h2, List.getElem?_drop] at hk
    have e : (⟨b, i * 3, none⟩ : Addr).add k = ⟨b, 3 * i + k, none⟩ := by rw [add_mk]; congr 1; omega
    rw [e]
    show w.cell? _ = _
    rw [hb.cell]
    simpa using hk
  have hcp1 : ∀ ty, (Builtin.copy_ #[25, 25] ty #[.slice (some ⟨b, (i + 1) * 3, none⟩) (n - i) (c - (i + 1)), .slice (some ⟨b, i * 3, none⟩) (n + 1 - i) (c - i)]).run Try.prog w.drew = .ok (goInt ((n - i : Nat) : Int)) (w.drew.setRow b (insA cur.toList i n).toArray) := fun ty' => by
    have hmin : Nat.min (n + 1 - i) (n - i) = n - i := by simp only [Nat.min_def]; split <;> omega
    have hlen : ((cur.toList.drop (3 * i)).take (3 * (n - i))).length = 3 * (n - i) := by rw [List.length_take, List.length_drop, hl]; omega
    have := run_copyZ w.drew 25 25 ty' 31 b ((i + 1) * 3) (n - i) (c - (i + 1)) ⟨b, i * 3, none⟩ (n + 1 - i) (c - i) 3 cur ty ((cur.toList.drop (3 * i)).take (3 * (n - i))) Try.underlying25 size_sec hb (by rw [hmin, hlen]; omega) hcell (by rw [hlen, hsz]; omega) (fun v hv => h1 v (by simpa using List.mem_of_mem_drop (List.mem_of_mem_take hv)))
    rw [this, hmin]
    unfold insA
    rw [hlen, show (i + 1) * 3 = 3 * (i + 1) by omega, show 3 * (i + 1) + 3 * (n - i) = 3 * (n + 1) by omega]
  have hAl : (insA cur.toList i n).length = c * 3 := by
    unfold insA
    rw [List.length_append, List.length_append, List.length_take, List.length_take, List.length_drop, List.length_drop, hl]
    omega
  have hAs : (insA cur.toList i n).toArray.size = cur.size := by rw [List.size_toArray, hAl, hsz]
  have hvl : vcur.toList.length = 3 := hvs
  have hcp2 : ∀ (W : World), RowAt W b (insA cur.toList i n).toArray ty → (∀ k, W.cell? ⟨vb, k, none⟩ = w.cell? ⟨vb, k, none⟩) → ∀ ty' dc, (Builtin.copy_ #[25, 25] ty' #[.slice (some ⟨b, i * 3, none⟩) (n + 1 - i) dc, .slice (some ⟨vb, 0, none⟩) 1 vc]).run Try.prog W = .ok (goInt ((1 : Nat) : Int)) (W.setRow b (insB (insA cur.toList i n) vcur.toList i).toArray) := fun W hW hWv ty' dc => by
    have hmin : Nat.min 1 (n + 1 - i) = 1 := by simp only [Nat.min_def]; split <;> omega
    have := run_copyZ W 25 25 ty' 31 b (i * 3) (n + 1 - i) dc ⟨vb, 0, none⟩ 1 vc 3 (insA cur.toList i n).toArray ty vcur.toList Try.underlying25 size_sec hW (by rw [hmin, hvl]) (fun k v hk => by
        rw [add_mk, hWv, Nat.zero_add]
        simp only [World.cell?, hv]
        simpa using hk) (by rw [hvl, List.size_toArray, hAl]; omega) (fun v hv => h1v v (by simpa using hv))
    rw [this, hmin]
    unfold insB
    rw [hvl, show i * 3 = 3 * i by omega, show 3 * i + 3 = 3 * (i + 1) by omega]
  have hBs : (insB (insA cur.toList i n) vcur.toList i).toArray.size = (insA cur.toList i n).toArray.size := by
    rw [List.size_toArray, List.size_toArray]
    unfold insB
    rw [List.length_append, List.length_append, List.length_take, List.length_drop, hvl, hAl]
    omega
  have hbw : RowAt w.drew b cur ty := hb
  have hcpB := fun ty' => hcp2 (w.drew.setRow b (insA cur.toList i n).toArray) (hbw.setRow hAs) (fun k => by rw [cell_setRow_ne hvb]; rfl) ty' (c - i)
  go_enter Try.func15, Try.ntmps15
  have hov := fun o lb cb => ov_apart w vb b vc vcur cur ty vty hvb hb (by omega) hv o lb cb
  go_wp2_with (simp only [hov])
  go_region_law_o (refine step_copy_runI rfl _ _ 25 25 rfl (.slice (some ⟨b, (i + 1) * 3, none⟩) (n - i) (c - (i + 1))) (.slice (some ⟨b, i * 3, none⟩) (n + 1 - i) (c - i)) ?_ ?_ (hcp1 _) ?_)
  go_wp2
  go_ret
  exact ⟨rfl, (hbw.setRow hAs).setRow hBs, keeps_drew.trans (keeps_setRow.trans keeps_setRow)⟩
end
end Go.Proofs.Ytfaadafgbhmlfaa
