/- Texts for VWithOwnP. -/
import Derived.Deep.AppendSrc
import Derived.Test.YtfaadafgbhmlfaaVw26
namespace Go.Proofs.Ytfaadafgbhmlfaa
open Go Go.RowKit
set_option linter.unusedVariables false
set_option linter.unusedSimpArgs false
section
open Go Go.RowKit Go.Shelf
theorem run_append_roomZ {P : Program} (w : World) (t tx ty e : TypeId) (i : TypeInfo) (ht : P.underlying t = some (.slice e)) (hi : P.info? e = some i) (b sLen sCap : Nat) (cur : Array Value) (rt : TypeId) (hb : RowAt w b cur rt) (x : Value) (n : Nat) (news : List Value) (hs : Src P i.size tx x n news w)
    (hroom : sLen + n ≤ sCap) (hfit : sLen * i.size + news.length ≤ cur.size) :
    (Builtin.append_ #[t, tx] ty #[.slice (some ⟨b, 0, none⟩) sLen sCap, x]).run P w = .ok (.slice (some ⟨b, 0, none⟩) (sLen + n) sCap) (w.setRow b (cur.toList.take (sLen * i.size) ++ news ++ cur.toList.drop (sLen * i.size + news.length)).toArray) := by
  have hst := run_storeZ P b (sLen * i.size) rt news 0 cur w hb (by simpa using hfit) hs.one
  simp only [Nat.add_zero] at hst
  rcases hs.kind with ⟨e', hk⟩ | hk <;> simp [Builtin.append_, run_underlying ht, run_underlying hk, sizeOf, typeInfo, hi, hs.len, hroom, hs.cells, Addr.add_lit, hst]
set_option maxHeartbeats 4000000 in
set_option maxRecDepth 100000 in
theorem ins_end_room (b n c vb vc : Nat) (cur vcur : Array Value) (ty vty : TypeId) (w : World) (hroom : n + 1 ≤ c) (hc63 : c ≤ maxLen) (hb : RowAt w b cur ty) (hsz : cur.size = c * 3)
    (hv : w.heap[vb]? = some (.cells vcur vty (0, 0))) (hvs : vcur.size = 3) (h1v : ∀ u ∈ vcur, u.oneCell' = true) :
    Calls Try.prog 15 #[.slice (some ⟨b, 0, none⟩) n c, .int .i64 n, .slice (some ⟨vb, 0, none⟩) 1 vc] w fun e w' =>
      e = .returned (.slice (some ⟨b, 0, none⟩) (n + 1) c) ∧ RowAt w' b (cur.toList.take (n * 3) ++ vcur.toList ++ cur.toList.drop (n * 3 + 3)).toArray ty ∧ Keeps (fun k => k = b) w w' := by
  obtain ⟨i0, z, hi0, hz0, hzs, hzb, hzc⟩ := info_sec
  have hm63 : maxLen ≤ 9223372036854775807 := by decide
  have u25 := run_underlying Try.underlying25
  have zS := sizeOf_sec
  have hvl : vcur.toList.length = 3 := hvs
  have hl : cur.toList.length = c * 3 := hsz
  have hsrc : Src Try.prog i0.size 25 (.slice (some ⟨vb, 0, none⟩) 1 vc) 1 vcur.toList w := Src.ofSlice w Try.underlying25 ⟨vb, 0, none⟩ 1 vc vcur.toList (by rw [hzs, hvl]) (fun k v hk => by
    rw [add_mk, Nat.zero_add]
    simp only [World.cell?, hv]
    simpa using hk) (fun v hv => h1v v (by simpa using hv))
  have hr : ∀ ty', (Builtin.append_ #[25, 25] ty' #[.slice (some ⟨b, 0, none⟩) n c, .slice (some ⟨vb, 0, none⟩) 1 vc]).run Try.prog w = .ok (.slice (some ⟨b, 0, none⟩) (n + 1) c) (w.setRow b (cur.toList.take (n * 3) ++ vcur.toList ++ cur.toList.drop (n * 3 + 3)).toArray) := fun ty' => by
    have := run_append_roomZ w 25 25 ty' 31 i0 Try.underlying25 hi0 b n c cur ty hb _ 1 vcur.toList hsrc hroom (by rw [hzs, hvl]; omega)
    rw [hzs, hvl] at this
    exact this
  have hRs : (cur.toList.take (n * 3) ++ vcur.toList ++ cur.toList.drop (n * 3 + 3)).toArray.size = cur.size := by
    rw [List.size_toArray, List.length_append, List.length_append, List.length_take, List.length_drop, hl, hvl]
    omega
  have hRow := hb.setRow hRs
  generalize (cur.toList.take (n * 3) ++ vcur.toList ++ cur.toList.drop (n * 3 + 3)).toArray = L at *
  clear hi0 hz0 hzs hzb hzc hsrc
  clear z i0
  go_enter Try.func15, Try.ntmps15
  go_wp2_with (at_builtin; refine Lib.wpList_append_run _ rfl _ _ _ _ rfl _ _ rfl rfl _ _ (hr _) ?_)
  all_goals (go_ret; exact ⟨rfl, hRow, keeps_setRow⟩)
def EgPost (w : World) (n : Nat) (L : List Value) (e : Ending) (w' : World) : Prop := ∃ (G : Nat) (Z : List Value), e = .returned (.slice (some ⟨w.heap.size, 0, none⟩) (n + 1) G) ∧ n + 1 ≤ G ∧ G ≤ maxLen ∧ Z.length = (G - (n + 1)) * 3 ∧ RowAt w' w.heap.size (L ++ Z).toArray 31 ∧ Keeps (fun _ => False) w w'
set_option maxHeartbeats 4000000 in
set_option maxRecDepth 100000 in
theorem ins_end_grow (base : Option Addr) (n vb vc : Nat) (cs : List Value) (vcur : Array Value) (vty : TypeId) (w : World) (hn : n ≤ 1000) (hl : cs.length = n * 3)
    (hnil : base = none → n = 0) (hcs : ∀ a, base = some a → ∀ j v, cs[j]? = some v → w.cell? (a.add j) = some v)
    (hv : w.heap[vb]? = some (.cells vcur vty (0, 0))) (hvs : vcur.size = 3) (h1v : ∀ u ∈ vcur, u.oneCell' = true) :
    Calls Try.prog 15 #[.slice base n n, .int .i64 n, .slice (some ⟨vb, 0, none⟩) 1 vc] w fun e w' =>
      EgPost w n (cs ++ vcur.toList) e w' := by
  obtain ⟨i0, z, hi0, hz0, hzs, hzb, hzc⟩ := info_sec
  have hm63 : maxLen ≤ 9223372036854775807 := by decide
  have u25 := run_underlying Try.underlying25
  have zS := sizeOf_sec
  have hvl : vcur.toList.length = 3 := hvs
  have hsrc : Src Try.prog i0.size 25 (.slice (some ⟨vb, 0, none⟩) 1 vc) 1 vcur.toList w := Src.ofSlice w Try.underlying25 ⟨vb, 0, none⟩ 1 vc vcur.toList (by rw [hzs, hvl]) (fun k v hk => by
    rw [add_mk, Nat.zero_add]
    simp only [World.cell?, hv]
    simpa using hk) (fun v hv => h1v v (by simpa using hv))
  have hold : (Builtin.firstCells i0.size n (.slice base n n)).run Try.prog w.drew = .ok cs.toArray w.drew := by
    rw [hzs]
    cases base with
    | none =>
      have h0 := hnil rfl
      subst h0
      rw [List.length_eq_zero_iff.1 hl]
      exact run_firstCells_none w.drew 3 0 0 0
    | some a => exact run_firstCells_some w.drew 3 n a n n cs (by omega) (fun j v hj => hcs a rfl j v hj)
  obtain ⟨G, hG⟩ : ∃ G, G = grownCap w (n + 1) n 31 := ⟨_, rfl⟩
  have hGn : n + 1 ≤ G := by rw [hG]; exact grownCap_ge w _ _ _
  have hG63 : G ≤ maxLen := by rw [hG]; exact grownCap_le_maxLen w (n + 1) n _ (by unfold maxLen; omega)
  obtain ⟨Z, hZ⟩ : ∃ Z : List Value, Z = (Builtin.zeroCells z.cells (G - (n + 1))).toList := ⟨_, rfl⟩
  have hzsz : z.cells.size = 3 := by rw [hzc]; rfl
  have hZl : Z.length = (G - (n + 1)) * 3 := by rw [hZ, Array.length_toList, zeroCells_len, hzsz]
  have hr : ∀ ty', (Builtin.append_ #[25, 25] ty' #[.slice base n n, .slice (some ⟨vb, 0, none⟩) 1 vc]).run Try.prog w = .ok (.slice (some ⟨w.heap.size, 0, none⟩) (n + 1) G) (w.drew.alloc (.cells (cs ++ vcur.toList ++ Z).toArray 31)) := fun ty' => by
    have := run_append_grow_src w 25 25 ty' 31 i0 z Try.underlying25 hi0 hz0 base n n cs hold _ 1 vcur.toList hsrc (by omega) (by omega) (by rw [hzb]; exact growslice_fits (by omega) (by omega))
    rw [← hG] at this
    rw [this, hZ]
    congr 3
    apply Array.ext'
    simp
  have hR : RowAt (w.drew.alloc (.cells (cs ++ vcur.toList ++ Z).toArray 31)) w.heap.size (cs ++ vcur.toList ++ Z).toArray 31 := rowAt0 (by show (w.heap.push _)[w.heap.size]? = _; exact Array.getElem?_push_size)
  have hK : Keeps (fun _ => False) w (w.drew.alloc (.cells (cs ++ vcur.toList ++ Z).toArray 31)) := keeps_drew.trans keeps_alloc
  have hP : ∀ v : Value, v = .slice (some ⟨w.heap.size, 0, none⟩) (n + 1) G → EgPost w n (cs ++ vcur.toList) (.returned v) (w.drew.alloc (.cells (cs ++ vcur.toList ++ Z).toArray 31)) := fun v hv => ⟨G, Z, by rw [hv], hGn, hG63, hZl, hR, hK⟩
  generalize (cs ++ vcur.toList ++ Z).toArray = L at *
  clear hi0 hz0 hzs hzb hzc hsrc hold hG hZ hzsz
  clear z i0
  cases base with
  | none =>
    have h0 := hnil rfl
    subst h0
    go_enter Try.func15, Try.ntmps15
    go_wp2_with (at_builtin; refine Lib.wpList_append_run _ rfl _ _ _ _ rfl _ _ rfl rfl _ _ (hr _) ?_)
    all_goals (go_ret; exact hP _ rfl)
  | some a =>
    obtain ⟨ab, ao, asp⟩ := a
    go_enter Try.func15, Try.ntmps15
    go_wp2_with (at_builtin; refine Lib.wpList_append_run _ rfl _ _ _ _ rfl _ _ rfl rfl _ _ (hr _) ?_)
    all_goals (go_ret; exact hP _ rfl)
end
end Go.Proofs.Ytfaadafgbhmlfaa
