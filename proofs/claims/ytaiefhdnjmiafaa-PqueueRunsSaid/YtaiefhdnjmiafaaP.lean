/- The law's list: its contract. -/
import Derived.Test.YtaiefhdnjmiafaaO
namespace Go.Proofs.Ytaiefhdnjmiafaa
open Go.RowKit Go.Shelf
set_option linter.unusedVariables false
attribute [local go_sem] Oper.semAt_some

theorem wpListIn_append_im {F : Fence} {n : Nat} {w : World} {ops : Array Oper} {rest : List Oper} {o : Oper} {a : Act} {Q : Exit → Act → World → Prop} (hgd : o.guard = none) (s x : Operand)
    (ho : o.op = .call { callee := .builtin .append, args := #[s, x], argTypes := #[28, 28] })
    (base : Nat) (A0 : Option Addr) (n0 c0 : Nat) (S0 : List PI) (hn0 : S0.length = n0) (hs : a.eval s = .slice A0 n0 c0) (hown : OwnI w base A0 c0 S0)
    (B : Nat) (A : Option Addr) (m c : Nat) (S : List PI) (hm : S.length = m) (hx : a.eval x = .slice A m c) (hr : Rd w B A S) (hsz : n0 + m ≤ 1000000) (hbase : base ≤ w.heap.size)
    (h : ∀ A' c' w', OwnI w' base A' c' (S0 ++ S) → w.grownBy w' (ownB A0) → wpListIn F n Try.prog ops Q rest (a.put o.dst (.slice A' (n0 + m) c')) w') : wpListIn F n Try.prog ops Q (o :: rest) a w := by
  obtain ⟨i0, hi, hz0, hz1, hz2⟩ := info_parts infoIm
  subst hn0 hm
  refine wpListIn_plain hgd fun K hK' => ?_
  obtain ⟨A', c', w', hrun, r1, r2, r3⟩ := run_append_any (P := Try.prog) w base 28 o.type 52 i0 _ 2 16 Try.underlying28 hi hz0 hz1 hz2 rfl (by decide) A0 S0.length c0 _ hown B A S.length c _ hr (im_one S) (by unfold maxLen; omega) (by omega) hbase
  unfold Oper.wpIn
  refine ⟨?_, ?_⟩
  · simp [Oper.about, ho, resolve, Target.leads, Sem.run_pure]
  · rw [Oper.semAt_plain F _ _ (by rw [ho]; intro c hc'; cases hc')]
    simp [execOp, ho, resolve, invoke, builtin, hs, hx, hrun, Result.andThen]
    exact hK' _ _ (h A' c' w' (by unfold OwnI; rw [im_app, List.length_append]; exact r1) r2)

theorem eqlFunc (w : World) (g : Nat) (b c : Array Value) : (binOp .eql 65 (.func (.func g) b c) .nilFunc).run Try.prog w = .ok (.bool false) w := by
  simp only [binOp]
  have : (Op.equalIn (9999 + 1) 65 (.func (.func g) b c) .nilFunc).run Try.prog w = .ok false w := by
    unfold Op.equalIn
    simp [run_underlying Try.underlying65, go_sem]
  simp [Op.equal, Op.maxDepth, this]
/-- list's own: the variable 'out' and what it holds, 'most', all else as it was -/
structure LI (W : World) (n0 most : Nat) (out : List PI) (U : World) : Prop where
  ex : ∃ A c, Blk U (n0 + 2) 28 #[.slice A out.length c] ∧ OwnI U (n0 + 5) A c out
  bm : Blk U n0 3 #[.int .i64 most]
  below : Below n0 W U
  size : n0 + 5 ≤ U.heap.size
theorem OwnI.it {B base c : Nat} {A : Option Addr} {S : List PI} {U U' : World} (h : OwnI U base A c S) (hi : It B U U') : OwnI U' base A c S := by
  refine ⟨h.1, ?_⟩
  rcases h.2 with h' | ⟨g, cap, cur, h', hb, hg, r⟩
  · exact .inl h'
  · exact .inr ⟨g, cap, cur, h', hb, hi.its g _ hg rfl, r⟩
theorem LI.it {W U U' : World} {n0 most : Nat} {out : List PI} (h : LI W n0 most out U) (hi : It (n0 + 5) U U') : LI W n0 most out U' := by
  obtain ⟨A, c, h1, h2⟩ := h.ex
  exact ⟨⟨A, c, (hi.old _ (by omega)).trans h1, h2.it hi⟩, (hi.old _ (by omega)).trans h.bm, h.below.trans ⟨hi.env.os, hi.env.tape, hi.env.output, hi.size, fun b hb => hi.old b (by omega)⟩, by have := hi.size; have := h.size; omega⟩
theorem LI.put {W U : World} {n0 most : Nat} {out : List PI} {r : Loop} {o : Obj} (h : LI W n0 most out U) (hr : U.heap[n0 + 4]? = some (.loop r)) : LI W n0 most out (U.putObj (n0 + 4) o) := by
  obtain ⟨A, c, h1, h2⟩ := h.ex
  refine ⟨⟨A, c, (World.putObj_heap_other (by omega)).trans h1, ?_⟩, (World.putObj_heap_other (by omega)).trans h.bm, h.below.trans ⟨rfl, rfl, rfl, by simp, fun b hb => World.putObj_heap_other (by omega)⟩, by have := h.size; simpa using this⟩
  refine ⟨h2.1, ?_⟩
  rcases h2.2 with h' | ⟨g, cap, cur, h', hb, hg, r⟩
  · exact .inl h'
  · exact .inr ⟨g, cap, cur, h', hb, (World.putObj_heap_other (by omega)).trans hg, r⟩
theorem OwnI.isIt {base c g : Nat} {A : Option Addr} {S : List PI} {U : World} (h : OwnI U base A c S) (e : ownB A = some g) : ∃ o, U.heap[g]? = some o ∧ isIt o = true := by
  rcases h.2 with ⟨h', _⟩ | ⟨g', cap, cur, h', hb, hg, r⟩
  · simp only [Value.slice.injEq] at h'; rw [h'.1] at e; simp [ownB] at e
  · simp only [Value.slice.injEq] at h'
    rw [h'.1] at e
    simp [ownB] at e
    subst e
    exact ⟨_, hg, rfl⟩
/-- what a round does to memory: one block more, an append, the variable 'out' -/
theorem kr_round {n0 : Nat} {U w2 : World} {A0 : Option Addr} {o1 : Obj} {v : Value} (hO : ∀ g, ownB A0 = some g → ∃ o, U.heap[g]? = some o ∧ isIt o = true) (hg : (U.alloc o1).grownBy w2 (ownB A0)) :
    Kr (n0 + 5) U (w2.setCell ⟨n0 + 2, 0, none⟩ v) := by
  refine ⟨by have := hg.size; simp [World.setCell] at *; omega, fun b o hb ho hi => ?_⟩
  have hlt := (Array.getElem?_eq_some_iff.1 ho).1
  rw [Below.heap_setCell _ _ _ _ (by simp; omega), hg.block b (by simp; omega) (fun e => ?_), Below.heap_alloc _ _ _ hlt, ho]
  obtain ⟨o', h1, h2⟩ := hO b e.symm
  rw [h1] at ho
  rw [Option.some.inj ho] at h2
  rw [h2] at hi
  cases hi
theorem li_round {W U w2 : World} {n0 most : Nat} {pre : List PI} {x : PI} {A0 A2 : Option Addr} {c0 c2 : Nat} {o1 : Obj} (h : LI W n0 most pre U) (hO : OwnI U (n0 + 5) A0 c0 pre) (hg : (U.alloc o1).grownBy w2 (ownB A0)) (hO2 : OwnI w2 (n0 + 5) A2 c2 (pre ++ [x])) :
    LI W n0 most (pre ++ [x]) (w2.setCell ⟨n0 + 2, 0, none⟩ (.slice A2 (pre.length + 1) c2)) := by
  have hne : ∀ b, b < n0 + 5 → (U.alloc o1).heap[b]? = w2.heap[b]? := fun b hb => by
    have hs := h.size
    refine (hg.block b (by simp; omega) (fun e => ?_)).symm
    have := Own.lt hO b e.symm
    omega
  obtain ⟨A, c, h1, h2⟩ := h.ex
  have hb1 : Below U.heap.size U (U.alloc o1) := (Below.refl _ U).alloc (Nat.le_refl _) _
  have hs := h.size
  have e1 : ∀ b, b < n0 + 5 → w2.heap[b]? = U.heap[b]? := fun b hb => (hne b hb).symm.trans (hb1.block b (by omega))
  have hsz : n0 + 5 ≤ w2.heap.size := by have := hg.size; simp at this; omega
  refine ⟨⟨A2, c2, ?_, ?_⟩, ?_, ?_, by simpa [World.setCell] using hsz⟩
  · have := (show Blk w2 (n0 + 2) 28 #[.slice A pre.length c] from (e1 _ (by omega)).trans h1).set_ 0 (.slice A2 (pre.length + 1) c2)
    simpa [List.length_append] using this
  · exact Own.grown hO2 (grown_setCell (grown_refl w2 (some (n0 + 2))) 0 _) (.inr fun e => by have := (Own.lt hO2 _ e).1; omega)
  · exact (Below.heap_setCell _ _ _ _ (by simp)).trans ((e1 _ (by omega)).trans h.bm)
  · exact (h.below.trans ⟨hg.os.trans hb1.os, hg.tape.trans hb1.tape, hg.output.trans hb1.output, Nat.le_trans hb1.size hg.size, fun b hb => e1 b (by omega)⟩).setCell (p := ⟨n0 + 2, 0, none⟩) (by simp) _

theorem li_old {W U w2 : World} {n0 most c0 : Nat} {pre : List PI} {A0 : Option Addr} {o1 : Obj} (h : LI W n0 most pre U) (hO : OwnI U (n0 + 5) A0 c0 pre) (hg : (U.alloc o1).grownBy w2 (ownB A0)) : ∀ b, b < n0 + 5 → w2.heap[b]? = U.heap[b]? := by
  intro b hb
  have hs := h.size
  rw [hg.block b (by simp; omega) (fun e => by have := Own.lt hO b e.symm; omega), Below.heap_alloc _ _ _ (by omega)]
theorem li_blk {W U w2 : World} {n0 most c0 : Nat} {pre : List PI} {A0 : Option Addr} {o1 : Obj} {cs : Array Value} (h : LI W n0 most pre U) (hO : OwnI U (n0 + 5) A0 c0 pre) (hg : (U.alloc o1).grownBy w2 (ownB A0)) (hb : Blk U (n0 + 2) 28 cs) : Blk w2 (n0 + 2) 28 cs :=
  (li_old h hO hg _ (by omega)).trans hb
theorem LI.shut {W U : World} {n0 most c : Nat} {A : Option Addr} {out : List PI} {d : Option (List Deferred)} {o : Obj} (h : LI W n0 most out U) (hO : OwnI U (n0 + 5) A c out) (hk : U.heap[n0 + 3]? = some (.deferred d)) :
    OwnI (U.putObj (n0 + 3) o) n0 A c out ∧ Below n0 W (U.putObj (n0 + 3) o) := by
  refine ⟨OwnI.less (b := n0 + 5) ⟨hO.1, ?_⟩ (by omega), h.below.trans ⟨rfl, rfl, rfl, by simp, fun b hb => World.putObj_heap_other (by omega)⟩⟩
  rcases hO.2 with h' | ⟨g, cap, cur, h', hb, hg, r⟩
  · exact .inl h'
  · exact .inr ⟨g, cap, cur, h', hb, (World.putObj_heap_other (by omega)).trans hg, r⟩
set_option maxRecDepth 100000 in
set_option maxHeartbeats 1000000 in
theorem list_any (p : Option Addr) (S : List PI) (most : Nat) (W : World) (hQ : QL W p S) (hm : most ≤ 100000) :
    Calls Try.prog 16 #[.pointer p, .int .i64 most] W fun e w' => ∃ A c, e = .returned (.tuple #[.slice A ((ord S.length S).take most).length c, .bool true]) ∧ OwnI w' W.heap.size A c ((ord S.length S).take most) ∧ Below W.heap.size W w' := by
  refine (callsIn_wide (n := 0)).1 ?_
  obtain ⟨n0, hn0⟩ : ∃ n, n = W.heap.size := ⟨_, rfl⟩
  have HN := Lib.hid hn0
  have HQ := Lib.hid hQ
  rw [← hn0]
  clear hQ hn0
  refine callsIn_of_wp_marks Try.func16 rfl trivial (wpIn_wide.2 ?_) rfl
  simp only [Try.ntmps16, List.size_toArray, List.length_cons, List.length_nil, Nat.reduceAdd, Nat.reduceSub, Array.replicate_succ, Array.replicate_zero, List.push_toArray, List.append_toArray, List.nil_append, List.cons_append]
  go_wp2_with fail
  refine (All_any p _).mono ?_
  rintro e w1 ⟨rfl, hw1⟩
  subst hw1
  have hE := fun w => eqlFunc w 23 #[] #[.pointer (some ⟨W.heap.size + 1, 0, none⟩)]
  go_wp2_with fail
  rw [← HN.out]
  rw [show n0 + 1 + 1 = n0 + 2 from rfl]
  obtain ⟨W3, hW3⟩ : ∃ U, U = (((W.alloc (.cells #[.int .i64 most] 3)).alloc (.cells #[.pointer p] 24)).alloc (.cells #[.slice none 0 0] 28)) := ⟨_, rfl⟩
  rw [← hW3]
  have hB3 : Below n0 W W3 := by
    rw [hW3, HN.out]; exact (((Below.refl _ W).alloc (Nat.le_refl _) _).alloc (by simp) _).alloc (by simp; omega) _
  have hS3 : W3.heap.size = n0 + 3 := by rw [hW3, HN.out]; simp
  have hb0 : Blk W3 n0 3 #[.int .i64 most] := by
    rw [hW3, HN.out]
    exact ((Blk.new W _ _).below ((Below.refl _ _).alloc (Nat.le_refl _) _) (by simp)).below ((Below.refl _ _).alloc (Nat.le_refl _) _) (by simp; omega)
  have hb1 : Blk W3 (n0 + 1) 24 #[.pointer p] := by
    rw [hW3, HN.out]
    have := Blk.new (W.alloc (.cells #[.int .i64 most] 3)) 24 #[.pointer p]
    simp only [World.size_alloc] at this
    exact this.below ((Below.refl _ _).alloc (Nat.le_refl _) _) (by simp)
  have hb2 : Blk W3 (n0 + 2) 28 #[.slice none 0 0] := by
    rw [hW3, HN.out]
    have := Blk.new ((W.alloc (.cells #[.int .i64 most] 3)).alloc (.cells #[.pointer p] 24)) 28 #[.slice none 0 0]
    simp only [World.size_alloc] at this
    exact this
  clear hW3 hE
  refine wpIn_wide.1 (range_wide (n := 0) (s := n0 + 3) hS3.symm (gf := 23) (lb := #[.pointer (some ⟨n0 + 1, 0, none⟩)]) rfl (enters_of Try.func23 (by kernel_rfl) rfl)
    (fun x : PI => #[.int .i64 x.1, .int .i64 x.2.2]) (fun _ => rfl) (ord S.length S) (It (n0 + 5)) (Kr (n0 + 5)) ?hItB
    (fun pre U => LI W n0 most pre U ∧ pre.length ≤ most) (fun c pre U => c = .exit 0 ∧ ∃ out x, pre = out ++ [x] ∧ out.length = most ∧ LI W n0 most out U) ?hI ?hIx ?hIo ?hIxo ?h0 ?hKo ?hseq
    (fun x => { tmps := #[.pointer p, .int .i64 most, undef, .pointer (some ⟨n0, 0, none⟩), .slice none 0 0, .bool false, .func (.func 23) #[] #[.pointer (some ⟨n0 + 1, 0, none⟩)], .pointer (some ⟨n0 + 2, 0, none⟩), .int .i64 x.1, .int .i64 x.2.2, .pointer p, .func (.func 23) #[] #[.pointer (some ⟨n0 + 1, 0, none⟩)], .func (.func 23) #[] #[.pointer (some ⟨n0 + 1, 0, none⟩)], .bool false, .func (.func 23) #[] #[.pointer (some ⟨n0 + 1, 0, none⟩)], .int .i64 x.1, .int .i64 x.2.2, undef, undef, undef, undef, undef, undef, undef, undef, undef, undef, undef], defers := [] }) ?hassign ?hbody ?hdone ?hstop)
  case hItB =>
    intro U U' h _
    exact ⟨h.old _ (by omega), h.old _ (by omega)⟩
  case hI =>
    rintro pre U U' ⟨h1, h2⟩ h
    exact ⟨h1.it h, h2⟩
  case hIx =>
    rintro c pre U U' ⟨h0, out, x, h1, h2, h3⟩ h
    exact ⟨h0, out, x, h1, h2, h3.it h⟩
  case hIo =>
    rintro pre U o ⟨r, hr⟩ ⟨h1, h2⟩
    exact ⟨h1.put hr, h2⟩
  case hIxo =>
    rintro c pre U o ⟨r, hr⟩ ⟨h0, out, x, h1, h2, h3⟩
    exact ⟨h0, out, x, h1, h2, h3.put hr⟩
  case h0 =>
    intro o1 o2
    have hb : Below (n0 + 3) W3 ((W3.alloc o1).alloc o2) := ((Below.refl _ W3).alloc (by omega) _).alloc (by simp; omega) _
    exact ⟨⟨⟨none, 0, hb2.below hb (by omega), OwnI.none_ _ _⟩, hb0.below hb (by omega), hB3.trans (hb.mono (by omega)), by simp [hS3]⟩, by simp⟩
  case hKo =>
    rintro U U' o o' ⟨r, hr⟩ ⟨h1, h2⟩
    refine ⟨by simpa using h1, fun b o hb ho hi => ?_⟩
    rw [World.putObj_heap_other (by omega)]
    refine h2 b o hb ?_ hi
    rw [World.putObj_heap_other (by omega)]
    exact ho
  case hseq =>
    intro J Jx o1 o2 hJ hJx hY h0
    have hb : Below (n0 + 3) W3 ((W3.alloc o1).alloc o2) := ((Below.refl _ W3).alloc (by omega) _).alloc (by simp; omega) _
    have hs : ((W3.alloc o1).alloc o2).heap.size = n0 + 5 := by simp [hS3]
    refine all1_any _ _ (n0 + 1) p S J Jx _ (fun pre U U' h hi => hJ pre U U' h (by rw [hs] at hi; exact hi)) (fun pre U U' h hi => hJx pre U U' h (by rw [hs] at hi; exact hi)) (fun m pre x U h hl => by rw [hs]; exact hY m pre x U h hl) ((hb1.below hb (by omega)).cell 0) ((HQ.out.below (by rw [← HN.out]; exact hB3)).below (by rw [hS3]; exact hb)) h0
  case hassign =>
    intro m x U K hK
    gi_wp2
    exact hK
  case hbody =>
    rintro m pre x U ⟨r, hr⟩ hk ⟨hL, hle⟩ hl
    obtain ⟨A0, c0, hb, hO⟩ := hL.ex
    have HL := Lib.hid hL
    have HO := Lib.hid hO
    have HO1 := Lib.hid (hO.below ((Below.refl _ U).alloc (Nat.le_refl _) (.cells #[.int .i64 x.1, .int .i64 x.2.2] 52)))
    have hsz : n0 + 5 ≤ U.heap.size := hL.size
    have hc2 : U.cell? ⟨n0 + 2, 0, none⟩ = some (.slice A0 pre.length c0) := hb.cell 0
    have hc0 : U.cell? ⟨n0, 0, none⟩ = some (.int .i64 most) := hL.bm.cell 0
    have HB := Lib.hid hb
    clear hL hO hr hk hb2 hb1 hb0 hB3 hb
    by_cases hlt : pre.length < most
    · have hd : decide (most ≤ pre.length) = false := by simp; omega
      gi_wp2_with (gi_at_builtin; refine wpListIn_append_im rfl (.tmp 21) (.tmp 25) rfl (n0 + 5) A0 pre.length c0 pre rfl rfl HO1.out _ _ _ _ [x] rfl rfl (Rd.one _ x) (by simp; omega) (by simp; omega) ?_; intro A2 c2 w2 hO2 hG2; go_loud (have HB2 : Hid (Blk w2 (n0 + 2) 28 #[.slice A0 pre.length c0]) := Lib.hid (li_blk HL.out HO.out hG2 HB.out); have HO2 := Lib.hid hO2; have HG2 := Lib.hid hG2; have f0 := HB2.out.frozen 0; have z0 : w2.cell? ⟨n0 + 2, 0, none⟩ = some (.slice A0 pre.length c0) := HB2.out.cell 0; clear hO2 hG2))
      have e1 := li_old HL.out HO.out HG2.out
      refine ⟨⟨(Below.heap_setCell _ _ _ _ (by simp)).trans (e1 _ (by omega)), (Below.heap_setCell _ _ _ _ (by simp)).trans (e1 _ (by omega))⟩, kr_round (fun g e => OwnI.isIt HO.out e) HG2.out, li_round HL.out HO.out HG2.out HO2.out, by simp; omega⟩
    · have hd : decide (most ≤ pre.length) = true := by simp; omega
      gi_wp2
      exact ⟨⟨rfl, rfl⟩, ⟨Nat.le_refl _, fun b o _ ho _ => ho⟩, rfl, pre, x, rfl, by omega, HL.out⟩
  case hdone =>
    rintro U ⟨hL, hle⟩ hk
    obtain ⟨A0, c0, hb, hO⟩ := hL.ex
    have hc2 : U.cell? ⟨n0 + 2, 0, none⟩ = some (.slice A0 (ord S.length S).length c0) := hb.cell 0
    have HT := Lib.hid (show (ord S.length S).take most = ord S.length S from List.take_of_length_le hle)
    have HL := Lib.hid hL
    have HO := Lib.hid hO
    have HK := Lib.hid hk
    clear hL hO hk hb hb0 hb1 hb2 hB3
    go_wp2_with fail
    refine ⟨by simp, .inl ⟨_, _, rfl, run_takeDeferred HK.out, _, results_tmp2 rfl _ _ _, ?_⟩⟩
    rw [HT.out]
    exact ⟨A0, c0, rfl, HL.out.shut HO.out HK.out⟩
  case hstop =>
    rintro c pre U hpre ⟨rfl, out, x, rfl, hlen, hL⟩ hk
    obtain ⟨A0, c0, hb, hO⟩ := hL.ex
    have hc2 : U.cell? ⟨n0 + 2, 0, none⟩ = some (.slice A0 out.length c0) := hb.cell 0
    have HT := Lib.hid (show (ord S.length S).take most = out from by obtain ⟨t, ht⟩ := hpre; rw [← ht, List.append_assoc, ← hlen, List.take_left])
    have HL := Lib.hid hL
    have HO := Lib.hid hO
    have HK := Lib.hid hk
    clear hL hO hk hb hb0 hb1 hb2 hB3 hpre
    refine wpIn_wide.2 ?_
    go_wp2_with fail
    refine ⟨by simp, .inl ⟨_, _, rfl, run_takeDeferred HK.out, _, results_tmp2 rfl _ _ _, ?_⟩⟩
    rw [HT.out, hlen]
    exact ⟨A0, c0, rfl, HL.out.shut HO.out HK.out⟩
end Go.Proofs.Ytaiefhdnjmiafaa
