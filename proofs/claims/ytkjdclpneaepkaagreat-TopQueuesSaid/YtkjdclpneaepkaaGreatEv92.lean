/- TopQueues: order.Room, order.Queues: is there room for one more of a queue? -/
import Derived.Test.YtkjdclpneaepkaaGreatEv91
set_option linter.unusedVariables false
open Go Go.Ev Go.Proofs Go.RowKit Go.Sort Go.Lib
namespace Go.Proofs.YtkjdclpneaepkaaGreat
/-- Names in a slice of the caller's own. -/
def NmS (lo : Nat) (w : World) (v : Value) (ts : List Nat) : Prop :=
  (v = .slice none 0 0 ∧ ts = []) ∨ ∃ g cp c T, v = .slice (some ⟨g, 0, none⟩) ts.length cp ∧ lo ≤ g ∧ w.heap[g]? = some (.cells c T (0, 0)) ∧ ts.length ≤ cp ∧ c.size = cp ∧ 0 < ts.length ∧ ∀ i (h : i < ts.length), c[i]? = some (encStr (qnL ts[i]))
theorem nm_holds {w : World} {g : Nat} {c : Array Value} {T : TypeId} {ts : List Nat} (h : w.heap[g]? = some (.cells c T (0, 0))) (hc : ∀ i (h : i < ts.length), c[i]? = some (encStr (qnL ts[i]))) : Holds encStr w g 0 (ts.map qnL).toArray := fun j hj => by
  have hj' : j < ts.length := by simpa using hj
  refine ⟨?_, by simp [World.frozen?, h]⟩
  rw [cell_of_heap h, Nat.zero_add, hc j hj']
  rw [getElem!_pos _ j hj]
  simp
theorem keep_sorted (w : World) (g q : Nat) (d : Array (List UInt8)) (os : Array Obj) (lo : Nat) (hl : lo ≤ g) {w0 : World} (h : Keep NoF w0 w) (h0 : w0.heap.size ≤ lo) : Keep NoF w0 (Sort.grow (putRow encStr (Sort.ahead w q) g 0 d) os) := by
  refine ⟨h.os, h.tape, h.output, ?_, fun k hk _ => ?_⟩
  · have := h.size
    rw [size_grow]
    show _ ≤ (putRow encStr (Sort.ahead w q) g 0 d).heap.size + _
    have e : (putRow encStr (Sort.ahead w q) g 0 d).heap.size = w.heap.size := by simp [putRow, mapBlock, Sort.ahead]
    rw [e]; omega
  · have hkw := h.size
    rw [← h.block k hk (fun f => f)]
    have e : (putRow encStr (Sort.ahead w q) g 0 d).heap.size = w.heap.size := by simp [putRow, mapBlock, Sort.ahead]
    rw [heap_grow_old _ os (by rw [e]; omega)]
    have hne : g ≠ k := by omega
    simp [putRow, mapBlock, Sort.ahead, Array.getElem?_modify, hne]
theorem keep_put (w : World) (g q : Nat) (d : Array (List UInt8)) (lo : Nat) (hl : lo ≤ g) {w0 : World} (h : Keep NoF w0 w) (h0 : w0.heap.size ≤ lo) : Keep NoF w0 (putRow encStr (Sort.ahead w q) g 0 d) := by
  have := keep_sorted w g q d #[] lo hl h h0
  rwa [grow_empty] at this
theorem eqlS (T : TypeId) : EqlAt Tryz.prog T encStr (fun x y => decide (x = y)) := ⟨fun x y w => by
  have := (EqlAt.string Tryz.prog T).1 ⟨x.toArray⟩ ⟨y.toArray⟩ w
  refine this.trans ?_
  by_cases h : x = y <;> simp [h], fun op a b x y w => (EqlAt.string Tryz.prog T).2 op a b ⟨x.toArray⟩ ⟨y.toArray⟩ w⟩
theorem neqS (T : TypeId) : NeqAt Tryz.prog T encStr (fun x y => decide (x = y)) := ⟨fun x y w => by
  have := (NeqAt.string Tryz.prog T).1 ⟨x.toArray⟩ ⟨y.toArray⟩ w
  refine this.trans ?_
  by_cases h : x = y <;> simp [h], (eqlS T).2⟩
theorem comnil (W : World) : Calls Tryz.prog 386 #[.slice none 0 0] W fun e w' => e = .returned (.slice none 0 0) ∧ w' = W := by
  go_enter Tryz.func386, Tryz.ntmps386
  go_wp2_with fail
  go_ret
  exact ⟨rfl, rfl⟩
theorem idxnilQ (fv : Value) (W : World) : Calls Tryz.prog 454 #[.slice none 0 0, fv] W fun e w' => e = .returned (.int .i64 (-1)) ∧ w' = W := by
  go_enter Tryz.func454, Tryz.ntmps454
  go_wp2_with fail
  refine wp_loop_rounds 1 ?_
  rw [rounds_succ]
  go_wp2_with fail
  go_ret
  exact ⟨rfl, rfl⟩
theorem delnilQ (fv : Value) (W : World) : Calls Tryz.prog 382 #[.slice none 0 0, fv] W fun e w' => e = .returned (.slice none 0 0) ∧ w' = W := by
  go_enter Tryz.func382, Tryz.ntmps382
  go_wp2_with fail
  refine (idxnilQ fv W).mono ?_
  rintro e w' ⟨rfl, rfl⟩
  go_wp2_with fail
  go_ret
  exact ⟨rfl, rfl⟩
/-- What order.names gives, at any world behind w. -/
abbrev NamesAt (w : World) (sv : Value) (ts : List Nat) : Prop := ∀ W, Keep NoF w W → Calls Tryz.prog 381 #[sv, .slice none 0 0] W fun e w' => ∃ v, e = .returned v ∧ NmS W.heap.size w' v ts ∧ Keep NoF W w'
set_option maxHeartbeats 2000000 in
theorem queues_any (a0 a1 a2 a3 a4 a5 a6 a7 a8 : Value) (ts : List Nat) (w : World) (hl : ts.length ≤ 1000) (hN : NamesAt w (.agg #[a0, a1, a2, a3, a4, a5, a6, a7, a8]) ts) :
    Calls Tryz.prog 279 #[.agg #[a0, a1, a2, a3, a4, a5, a6, a7, a8], .slice none 0 0] w fun e w' => ∃ ao cp, e = .returned (.slice ao (kindsB ts) cp) ∧ Keep NoF w w' := by
  have HN := Lib.hid hN
  clear hN
  go_enter Tryz.func279, Tryz.ntmps279
  go_wp2_with fail
  have ka : Keep NoF w (w.alloc (.cells #[a0, a1, a2, a3, a4, a5, a6, a7, a8] 56)) := (Keep.refl NoF w).alloc _
  refine (HN.out _ ka).mono ?_
  rintro e w1 ⟨v, rfl, hs, hk⟩
  have K1 := Lib.hid (ka.trans' hk)
  have hsz : w.heap.size ≤ (w.alloc (.cells #[a0, a1, a2, a3, a4, a5, a6, a7, a8] 56)).heap.size := by simp
  generalize (w.alloc (.cells #[a0, a1, a2, a3, a4, a5, a6, a7, a8] 56)).heap.size = lo at hs hsz
  clear ka hk HN
  rcases hs with ⟨rfl, rfl⟩ | ⟨g, cp, c, T, rfl, hg, hb, hc1, hc2, hc3, hc⟩
  · go_wp2_with fail
    have hsn := AnyM.slices_Sort_string_none Tryz.sortS none 0 w1
    change Calls Tryz.prog 385 _ _ _ at hsn
    refine hsn.mono ?_
    rintro e w2 ⟨rfl, rfl⟩
    clear hsn
    go_wp2_with fail
    refine (comnil _).mono ?_
    rintro e w3 ⟨rfl, rfl⟩
    go_wp2_with fail
    go_ret
    exact ⟨_, _, rfl, K1.out⟩
  · have hsrt := AnyM.slices_Sort_string Tryz.sortS g 0 cp (ts.map qnL) w1 (nm_holds hb hc) (lt_of_heap hb) (by rw [List.length_map]; omega)
    change Calls Tryz.prog 385 _ _ _ at hsrt
    rw [List.length_map] at hsrt
    have HS := Lib.hid hsrt
    have HH := Lib.hid (nm_holds hb hc)
    obtain ⟨zs, hzs⟩ : ∃ zs, (ts.map qnL).mergeSort (fun x y => decide (x ≤ y)) = zs := ⟨_, rfl⟩
    have hzl : zs.length = ts.length := by rw [← hzs, List.length_mergeSort, List.length_map]
    have hkl : (compactUpTo zs.toArray zs.length).length = kindsB ts := by rw [← hzs]; exact kinds_len ts
    have HZ := Lib.hid hzs; have HZL := Lib.hid hzl; have HKL := Lib.hid hkl
    have hlt := lt_of_heap hb
    obtain ⟨n, hn⟩ : ∃ n, ts.length = n := ⟨_, rfl⟩
    rw [hn] at HS HZL hc1 hc3 hl ⊢
    have HN := Lib.hid hn
    clear hsrt hzs hzl hkl hb hc hn
    go_wp2_with fail
    refine HS.out.mono ?_
    rintro e w2 ⟨rfl, q, os, rfl⟩
    have hK2 := keep_sorted w1 g q ((ts.map qnL).mergeSort fun x y => decide (x ≤ y)).toArray os lo hg K1.out hsz
    rw [HZ.out] at hK2 ⊢
    have hH2 : Holds encStr (Sort.grow (putRow encStr (Sort.ahead w1 q) g 0 zs.toArray) os) g 0 zs.toArray := holds_grow encStr _ os g 0 _ (by show g < (putRow encStr (Sort.ahead w1 q) g 0 zs.toArray).heap.size; simp [putRow, mapBlock, Sort.ahead]; exact hlt) (holds_putRow encStr _ g 0 (ts.map qnL).toArray zs.toArray (holds_ahead encStr w1 q g 0 _ HH.out) (by simp [HZL.out, HN.out]))
    have hco := AnyE.slices_Compact Tryz.comS encStr (fun _ => rfl) (eqlS _) (neqS _) [] (fun _ => by kernel_rfl) g 0 cp zs.toArray _ hH2 (by simp [HZL.out]; omega) (by simp [HZL.out]; omega)
    change Calls Tryz.prog 386 _ _ _ at hco
    simp only [List.size_toArray] at hco
    rw [HKL.out, HZL.out] at hco
    have HCO := Lib.hid hco; have K2 := Lib.hid hK2
    clear hco hK2 hH2 HS
    generalize Sort.grow (putRow encStr (Sort.ahead w1 q) g 0 zs.toArray) os = w2 at HCO K2 ⊢
    go_wp2_with fail
    refine HCO.out.mono ?_
    rintro e w3 ⟨rfl, q2, hw3⟩
    have K3 : Hid (Keep NoF w w3) := Lib.hid (by rw [hw3]; exact keep_put w2 g q2 _ lo hg K2.out hsz)
    clear hw3
    go_wp2_with fail
    go_ret
    exact ⟨_, _, rfl, K3.out⟩
theorem infoSt : ∃ i, Tryz.prog.info? 9 = some i ∧ i.zero = some (.string ByteArray.empty) ∧ i.size = 1 ∧ i.bytes = 16 := by
  have h : (Tryz.prog.info? 9).map (fun i => (i.zero, i.size, i.bytes)) = some (some (.string ByteArray.empty), 1, 16) := by kernel_rfl
  obtain ⟨i, h1, h2⟩ := Option.map_eq_some_iff.1 h
  simp only [Prod.mk.injEq] at h2
  exact ⟨i, h1, h2⟩
/-- The closure of order.Room: the same name? -/
theorem gives_room (B t : Nat) (W : World) (h : W.cell? ⟨B, 0, none⟩ = some (encStr (qnL t))) (x : List UInt8) : FnGives Tryz.prog 384 #[.pointer (some ⟨B, 0, none⟩)] #[encStr x] (.bool (decide (x = qnL t))) W := by
  show Calls Tryz.prog 384 #[.string ⟨x.toArray⟩, .pointer (some ⟨B, 0, none⟩)] W _
  replace h : W.cell? ⟨B, 0, none⟩ = some (.string ⟨(qnL t).toArray⟩) := h
  have e : ((⟨x.toArray⟩ : ByteArray).toList == (⟨(qnL t).toArray⟩ : ByteArray).toList) = decide (x = qnL t) := by
    by_cases q : x = qnL t <;> simp [q]
  generalize decide (x = qnL t) = r at e ⊢
  generalize (⟨x.toArray⟩ : ByteArray) = s at e ⊢
  generalize (⟨(qnL t).toArray⟩ : ByteArray) = u at e h ⊢
  have HE := Lib.hid e
  clear e
  go_enter Tryz.func384, Tryz.ntmps384
  go_wp2_with fail
  go_ret
  exact ⟨by first | rfl | (rw [HE.out]; rfl), 0, rfl⟩
set_option maxRecDepth 8000 in
set_option maxHeartbeats 4000000 in
theorem room_any (a0 a1 a2 a3 a4 a5 a6 a7 a8 : Value) (ts : List Nat) (t : Nat) (w : World) (hl : ts.length ≤ 1000) (hN : NamesAt w (.agg #[a0, a1, a2, a3, a4, a5, a6, a7, a8]) ts) :
    Calls Tryz.prog 278 #[.agg #[a0, a1, a2, a3, a4, a5, a6, a7, a8], .string (qn t), .slice none 0 0] w fun e w' => e = .returned (.bool (roomB ts t)) ∧ Keep NoF w w' := by
  have HN := Lib.hid hN
  clear hN
  obtain ⟨qv, hq⟩ : ∃ qv, qn t = qv := ⟨_, rfl⟩
  rw [hq]
  have HQ : Hid (Value.string qv = encStr (qnL t)) := Lib.hid (by rw [← hq]; rfl)
  clear hq
  go_enter Tryz.func278, Tryz.ntmps278
  go_wp2_with fail
  have ka : Keep NoF w ((w.alloc (.cells #[a0, a1, a2, a3, a4, a5, a6, a7, a8] 56)).alloc (.cells #[.string qv] 9)) := ((Keep.refl NoF w).alloc _).alloc _
  have hb0 : ((w.alloc (.cells #[a0, a1, a2, a3, a4, a5, a6, a7, a8] 56)).alloc (.cells #[.string qv] 9)).heap[w.heap.size]? = some (.cells #[a0, a1, a2, a3, a4, a5, a6, a7, a8] 56) := by
    rw [alloc_get _ _ _ (by show _ < (w.heap.push _).size; simp)]; exact heap_new w _
  have hb1 : ((w.alloc (.cells #[a0, a1, a2, a3, a4, a5, a6, a7, a8] 56)).alloc (.cells #[.string qv] 9)).heap[w.heap.size + 1]? = some (.cells #[.string qv] 9) := by
    have := heap_new (w.alloc (.cells #[a0, a1, a2, a3, a4, a5, a6, a7, a8] 56)) (.cells #[.string qv] 9)
    rwa [show (w.alloc (.cells #[a0, a1, a2, a3, a4, a5, a6, a7, a8] 56)).heap.size = w.heap.size + 1 by simp] at this
  have hsz : ((w.alloc (.cells #[a0, a1, a2, a3, a4, a5, a6, a7, a8] 56)).alloc (.cells #[.string qv] 9)).heap.size = w.heap.size + 2 := by simp
  refine (HN.out _ ka).mono ?_
  rintro e w1 ⟨v, rfl, hs, hk⟩
  rw [hsz] at hs
  have hb0' := (hk.block _ (lt_of_heap hb0) (fun f => f)).trans hb0
  have hb1' := (hk.block _ (lt_of_heap hb1) (fun f => f)).trans hb1
  have K1 := Lib.hid (ka.trans' hk); have B0 := Lib.hid hb0'; have B1 := Lib.hid hb1'
  clear ka hb0 hb1 hsz hk hb0' hb1'
  have fin : ∀ (W : World) (Kw : Keep NoF w1 W), Keep NoF w W := fun W k => K1.out.trans' k
  have HF := Lib.hid fin
  clear fin
  have HQU : Hid (∀ W, Keep NoF w1 W → Calls Tryz.prog 279 #[.agg #[a0, a1, a2, a3, a4, a5, a6, a7, a8], .slice none 0 0] W fun e w' => ∃ ao cp, e = .returned (.slice ao (kindsB ts) cp) ∧ Keep NoF W w') := Lib.hid fun W k => queues_any a0 a1 a2 a3 a4 a5 a6 a7 a8 ts W hl fun W2 k2 => HN.out W2 ((HF.out W k).trans' k2)
  have cells : ∀ (W : World), Keep NoF w1 W → ∀ (j : Nat) (u : Value), (#[a0, a1, a2, a3, a4, a5, a6, a7, a8] : Array Value)[j]? = some u → W.cell? ⟨w.heap.size, j, none⟩ = some u := fun W k j u e => by
    rw [cell_of_heap ((k.block _ (lt_of_heap B0.out) (fun f => f)).trans B0.out)]; exact e
  have HC := Lib.hid cells
  clear cells HN
  have hkb : kindsB ts ≤ 8 := by
    unfold kindsB
    exact Nat.le_trans (List.length_filter_le _ _) (by simp)
  obtain ⟨kd, hkd⟩ : ∃ kd, kindsB ts = kd := ⟨_, rfl⟩
  obtain ⟨bs, hbs⟩ : ∃ bs, w.heap.size = bs := ⟨_, rfl⟩
  rw [hkd] at HQU hkb
  rw [hbs] at B0 B1 HC hs ⊢
  have HKD := Lib.hid hkd
  clear hbs hkd
  rcases hs with ⟨rfl, rfl⟩ | ⟨g, cp, c, T, rfl, hg, hb, hc1, hc2, hc3, hc⟩
  · have hcl := AnyE.slices_Clone_nil Tryz.cloS 0 0 w1
    change Calls Tryz.prog 383 _ _ _ at hcl
    have HR : Hid (decide ((kd : Int) < 6) = roomB [] t) := Lib.hid (by
      rw [← HKD.out]; rfl)
    have HCL := Lib.hid hcl
    clear hcl
    go_wp2_with fail
    refine HCL.out.mono ?_
    rintro e w2 ⟨rfl, rfl⟩
    go_wp2_with fail
    refine (delnilQ _ _).mono ?_
    rintro e w2 ⟨rfl, rfl⟩
    have q0 := HC.out w2 (Keep.refl _ _) 0 a0 rfl
    have q1 := HC.out w2 (Keep.refl _ _) 1 a1 rfl
    have q2 := HC.out w2 (Keep.refl _ _) 2 a2 rfl
    have q3 := HC.out w2 (Keep.refl _ _) 3 a3 rfl
    have q4 := HC.out w2 (Keep.refl _ _) 4 a4 rfl
    have q5 := HC.out w2 (Keep.refl _ _) 5 a5 rfl
    have q6 := HC.out w2 (Keep.refl _ _) 6 a6 rfl
    have q7 := HC.out w2 (Keep.refl _ _) 7 a7 rfl
    have q8 := HC.out w2 (Keep.refl _ _) 8 a8 rfl
    go_wp2_with fail
    refine (HQU.out _ (Keep.refl _ _)).mono ?_
    rintro e w3 ⟨ao, cp, rfl, hk3⟩
    have K3 := Lib.hid (HF.out _ hk3)
    clear hk3 q0 q1 q2 q3 q4 q5 q6 q7 q8
    go_wp2_with fail
    go_ret
    exact ⟨by rw [← HR.out]; rfl, K3.out⟩
  · obtain ⟨n, hn⟩ : ∃ n, ts.length = n := ⟨_, rfl⟩
    obtain ⟨ho1, ho2⟩ := others_len ts t
    obtain ⟨m, hm⟩ : ∃ m, (ts.filter fun x => x % 8 == t % 8).length = m := ⟨_, rfl⟩
    rw [hm, hn] at ho1
    rw [hm, hn] at ho2
    have hro : roomB ts t = (if 0 < m then decide (m < 12) else decide (kd < 6)) := by
      unfold roomB
      rw [hm, HKD.out]
      by_cases q : 0 < m <;> simp [q]
    have hnl : (ts.map fun x => encStr (qnL x)).length = n * 1 := by rw [List.length_map, hn]; omega
    have hcl := AnyE.slices_Clone Tryz.cloS _ (.string ByteArray.empty) 1 16 infoSt.choose_spec.1 infoSt.choose_spec.2.1 infoSt.choose_spec.2.2.1 infoSt.choose_spec.2.2.2 rfl (by decide) (fun _ => by kernel_rfl) g 0 n cp (ts.map fun x => encStr (qnL x)) w1 hnl (by unfold maxLen; omega) (by omega) (fun j u e => by
      rw [List.getElem?_map] at e
      cases q : ts[j]? with
      | none => rw [q] at e; cases e
      | some x =>
        rw [q] at e
        have hj : j < ts.length := (List.getElem?_eq_some_iff.1 q).1
        have hx : ts[j] = x := (List.getElem?_eq_some_iff.1 q).2
        rw [cell_of_heap hb, Nat.zero_add, hc j hj, hx]
        exact e) (fun u hu => by obtain ⟨x, -, rfl⟩ := List.mem_map.1 hu; rfl)
    change Calls Tryz.prog 383 _ _ _ at hcl
    rw [hn] at hc1 hc3 hl ⊢
    have HCL := Lib.hid hcl; have HO := Lib.hid ho1; have HRO := Lib.hid hro; have HN := Lib.hid hn
    clear hcl ho1 hro hb hc hnl hm hn
    go_wp2_with fail
    refine HCL.out.mono ?_
    rintro e w2 ⟨v2, rfl, hrow, hne, hbl⟩
    have hk2 : Keep NoF w1 w2 := Keep.ofBelow hbl
    rcases hrow.2 with ⟨rfl, he⟩ | ⟨g2, cap2, cur2, rfl, hgb, hh, hlc, hcm, hcs, htk⟩
    · exact absurd rfl hne
    have hcell : ∀ W, Keep NoF w1 W → W.cell? ⟨bs + 1, 0, none⟩ = some (encStr (qnL t)) := fun W k => by
      rw [cell_of_heap ((k.block _ (lt_of_heap B1.out) (fun f => f)).trans B1.out), ← HQ.out]; rfl
    have hH : Holds encStr w2 g2 0 (ts.map qnL).toArray := nm_holds hh fun i hi => by
      have h1 : (cur2.toList.take (n * 1))[i]? = (ts.map fun x => encStr (qnL x))[i]? := by rw [htk]
      rw [List.getElem?_take_of_lt (by have := HN.out; omega), Array.getElem?_toList, List.getElem?_map, List.getElem?_eq_getElem hi] at h1
      exact h1
    have eg : ∀ args w, (callFunc 384 args).run Tryz.prog w = .ok (.enter 384 args) w := enters_of Tryz.func384 (by kernel_rfl) rfl
    have hcon := AnyE.slices_DeleteFunc Tryz.delS encStr (fun _ => rfl) (fun x => decide (x = qnL t)) 384 #[.pointer (some ⟨bs + 1, 0, none⟩)] eg [] (fun _ => by kernel_rfl) g2 0 cap2 (ts.map qnL).toArray w2
      (fun W x hb => gives_room (bs + 1) t W (hcell W (hk2.trans' (Keep.ofBelow hb))) x)
      (fun m os dk x _ => gives_room (bs + 1) t _ (hcell _ (keep_sorted w2 g2 m dk os w1.heap.size hgb hk2 (Nat.le_refl _))) x) hH (by simp; have := HN.out; omega) (by simp; have := HN.out; omega)
    change Calls Tryz.prog 382 _ _ _ at hcon
    simp only [List.size_toArray, List.length_map] at hcon
    rw [HO.out, HN.out] at hcon
    have HCON := Lib.hid hcon; have K2 := Lib.hid hk2
    clear hcon eg hH hcell hrow hne hbl hh hcm hcs htk
    obtain ⟨d, hd⟩ : ∃ d, n - m = d := ⟨_, rfl⟩
    rw [hd] at HCON
    go_wp2_with fail
    refine HCON.out.mono ?_
    rintro e w3 ⟨rfl, q3, hw3⟩
    have hk3 : Keep NoF w1 w3 := by rw [hw3]; exact keep_put w2 g2 q3 _ w1.heap.size hgb K2.out (Nat.le_refl _)
    have K3 := Lib.hid hk3
    clear hw3 hk3
    by_cases hm0 : 0 < m
    · have hm1 : (n : Int) - d > 0 := by omega
      have HR : Hid (decide ((n : Int) - d < 12) = roomB ts t) := Lib.hid (by
        rw [HRO.out, if_pos hm0, decide_eq_decide]; omega)
      have hw : IntKind.i64.wrap ((n : Int) - d) = (n : Int) - d := IntWalk.i64_in _ (by omega)
      go_wp2_with fail
      go_ret
      exact ⟨by rw [← HR.out]; rfl, HF.out _ K3.out⟩
    · have hm1 : (n : Int) - d = 0 := by omega
      have hdn : d = n := by omega
      subst hdn
      have HR : Hid (decide ((kd : Int) < 6) = roomB ts t) := Lib.hid (by
        rw [HRO.out, if_neg hm0, decide_eq_decide]; omega)
      have q0 := HC.out w3 K3.out 0 a0 rfl
      have q1 := HC.out w3 K3.out 1 a1 rfl
      have q2 := HC.out w3 K3.out 2 a2 rfl
      have q3 := HC.out w3 K3.out 3 a3 rfl
      have q4 := HC.out w3 K3.out 4 a4 rfl
      have q5 := HC.out w3 K3.out 5 a5 rfl
      have q6 := HC.out w3 K3.out 6 a6 rfl
      have q7 := HC.out w3 K3.out 7 a7 rfl
      have q8 := HC.out w3 K3.out 8 a8 rfl
      go_wp2_with fail
      refine (HQU.out _ K3.out).mono ?_
      rintro e w4 ⟨ao, cq, rfl, hk4⟩
      have K4 := Lib.hid (HF.out _ (K3.out.trans' hk4))
      clear hk4 q0 q1 q2 q3 q4 q5 q6 q7 q8
      go_wp2_with fail
      go_ret
      exact ⟨by rw [← HR.out]; rfl, K4.out⟩
end Go.Proofs.YtkjdclpneaepkaaGreat
