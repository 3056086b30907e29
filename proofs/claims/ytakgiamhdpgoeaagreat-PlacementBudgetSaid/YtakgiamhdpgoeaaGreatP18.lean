/- Lemmas. -/
import Derived.Test.YtakgiamhdpgoeaaGreatP13
set_option linter.unusedSimpArgs false
namespace Go.Proofs.YtakgiamhdpgoeaaGreat
open Go.RowKit
set_option linter.unusedVariables false
def OwnS (w : World) (base : Nat) (A : Option Addr) (c : Nat) (l : List ByteArray) : Prop := Own w base 9 1 A l.length c (l.flatMap strE)
section
variable {w w' : World} {base c : Nat} {A : Option Addr} {l : List ByteArray}
theorem OwnS.none_ (w : World) (base : Nat) : OwnS w base none 0 [] := Own.none_ _ _ _ _
theorem OwnS.below (h : OwnS w base A c l) (hb : Below w.heap.size w w') : OwnS w' base A c l := Own.below h hb
theorem OwnS.le (h : OwnS w base A c l) : l.length ≤ c ∧ c ≤ maxLen := by
 rcases h.2 with ⟨h1, h2⟩ | ⟨g, cap, cur, hv, _, _, h1, h2, _⟩
 ·injection h1 with _ _ h1; subst h1; rw [h2]; exact ⟨Nat.le_refl _, Nat.zero_le _⟩
 ·injection hv with _ _ hv; subst hv; exact ⟨h1, h2⟩
theorem OwnS.slr (h : OwnS w base A c l) : SLR w w.heap.size 1 strE (fun _ => True) ⟨A, c, l⟩ := ⟨h.le.1, h.le.2, Own.reads h, fun _ _ => trivial⟩
end
theorem infoStr : (Tryz.prog.info? 9).map (fun i => (i.zero, i.size, i.bytes)) = some (some (.string ⟨#[]⟩), 1, 16) := by kernel_rfl
theorem one_strE (l : List ByteArray) : ∀ u ∈ l.flatMap strE, u.oneCell' = true := by
 intro u hu
 obtain ⟨x, _, hx⟩ := List.mem_flatMap.1 hu
 simp [strE] at hx
 subst hx
 rfl
theorem zqd (w : World) (n : Nat) (hn : w.heap.size = n) (x : ByteArray) : Reads (w.alloc (.cells #[.string x] 9)) (n + 1) 1 (some ⟨n, 0, none⟩) 1 ([x].flatMap strE) := by
 subst hn
 exact ⟨rfl, fun _ => ⟨_, rfl, by simp, fun j v hv => by
  rw [show ((⟨w.heap.size, 0, none⟩ : Addr).add j) = ⟨w.heap.size, j, none⟩ from by unfold Addr.add; split <;> simp_all, (Blk.new w _ _).cell j]
  simpa [strE] using hv⟩⟩
theorem zib {w : World} {ops : Array Oper} {rest : List Oper} {o : Oper} {a : Act} {Q : Exit → Act → World → Prop} (hgd : o.guard = none) (s x : Operand)
  (ho : o.op = .call { callee := .builtin .append, args := #[s, x], argTypes := #[124, 124] })
  (base : Nat) (A0 : Option Addr) (n0 c0 : Nat) (S0 : List ByteArray) (hn0 : S0.length = n0) (hs : a.eval s = .slice A0 n0 c0) (hown : OwnS w base A0 c0 S0)
  (B : Nat) (A : Option Addr) (m c : Nat) (S : List ByteArray) (hm : S.length = m) (hx : a.eval x = .slice A m c) (hr : Reads w B 1 A m (S.flatMap strE)) (hsz : n0 + m ≤ 1000000) (hbase : base ≤ w.heap.size)
  (h : ∀ A' c' w', OwnS w' base A' c' (S0 ++ S) → w.grownBy w' (ownB A0) → wpList Tryz.prog ops Q rest (a.put o.dst (.slice A' (n0 + m) c')) w') : wpList Tryz.prog ops Q (o :: rest) a w := by
 obtain ⟨i0, hi, hz0, hz1, hz2⟩ := info_parts infoStr
 subst hn0 hm
 refine zNa w hgd s x 124 ho base 9 i0 _ 1 16 Tryz.underlying124 hi hz0 hz1 hz2 rfl (by decide) A0 S0.length c0 _ hs hown B A S.length c _ hx hr (one_strE S) (by unfold maxLen; omega) (by omega) hbase ?_
 intro A' c' w' h1 h2 h3
 exact h A' c' w' (by unfold OwnS; rw [List.flatMap_append, List.length_append]; exact h1) h2
theorem OwnS.step {w w' w0 : World} {B base c : Nat} {A : Option Addr} {l : List ByteArray} (h : OwnS w base A c l) (hb : Below B w0 w) (hg : w.grownBy w' (ownB A)) (hB : B ≤ base) (hs : B ≤ w.heap.size) : Below B w0 w' :=
 hb.grown hg hs (fun k hk => Nat.le_trans hB (Own.lt h k hk).1)
theorem headerName_any (x : HdrD) (w : World) : Calls Tryz.prog 46 #[.agg #[.string x.name, .slice x.fields.a x.fields.l.length x.fields.c]] w fun e w' => e = .returned (.string x.name) ∧ Below w.heap.size w w' := by
 go_enter Tryz.func46, Tryz.ntmps46
 go_wp2_with fail
 go_returns
 exact ⟨rfl, by (first | (refine zca ?_ _; go_grown; done) | (go_grown; done))⟩
theorem fieldName_any (x : FldD) (w : World) : Calls Tryz.prog 50 #[.agg #[.string x.name, .int .i64 x.width]] w fun e w' => e = .returned (.string x.name) ∧ Below w.heap.size w w' := by
 go_enter Tryz.func50, Tryz.ntmps50
 go_wp2_with fail
 go_returns
 exact ⟨rfl, by (first | (refine zca ?_ _; go_grown; done) | (go_grown; done))⟩
theorem zIf (x : RegD) (w : World) : Calls Tryz.prog 53 #[.agg #[.string x.name, .int .i64 x.width, .int .i64 x.size]] w fun e w' => e = .returned (.string x.name) ∧ Below w.heap.size w w' := by
 go_enter Tryz.func53, Tryz.ntmps53
 go_wp2_with fail
 go_returns
 exact ⟨rfl, by (first | (refine zca ?_ _; go_grown; done) | (go_grown; done))⟩
theorem actionName_any (x : ActD) (w : World) : Calls Tryz.prog 56 #[.agg #[.string x.name, .slice x.params.a x.params.l.length x.params.c, .slice x.body.a x.body.l.length x.body.c]] w fun e w' => e = .returned (.string x.name) ∧ Below w.heap.size w w' := by
 go_enter Tryz.func56, Tryz.ntmps56
 go_wp2_with fail
 go_returns
 exact ⟨rfl, by (first | (refine zca ?_ _; go_grown; done) | (go_grown; done))⟩
theorem tableName_any (x : TblD) (w : World) : Calls Tryz.prog 59 #[.agg #[.string x.name, .slice x.keys.a x.keys.l.length x.keys.c, .slice x.aZ.a x.aZ.l.length x.aZ.c, .int .i64 x.dfl, .slice x.args.a x.args.l.length x.args.c, .int .i64 x.size]] w fun e w' => e = .returned (.string x.name) ∧ Below w.heap.size w w' := by
 go_enter Tryz.func59, Tryz.ntmps59
 go_wp2_with fail
 go_returns
 exact ⟨rfl, by (first | (refine zca ?_ _; go_grown; done) | (go_grown; done))⟩
def NamesP (w : World) (l : List ByteArray) (e : Ending) (w' : World) : Prop := ∃ A c, e = .returned (.slice A l.length c) ∧ OwnS w' w.heap.size A c l
set_option maxRecDepth 100000 in
set_option maxHeartbeats 1000000 in
theorem namesHdr_any {ok : HdrD → Prop} (s : SL HdrD) (w : World) (hS : SLR w w.heap.size 2 HdrD.enc ok s) (hl : s.l.length ≤ 1000) :
  Calls Tryz.prog 45 #[.slice s.a s.l.length s.c, .func (.func 46) #[] #[]] w fun e w' => NamesP w (s.l.map (·.name)) e w' ∧ Below w.heap.size w w' := by
 obtain ⟨N, hN⟩ : ∃ N, w.heap.size = N := ⟨_, rfl⟩
 rw [hN] at hS ⊢
 obtain ⟨sa, sc, sl⟩ := s
 have HS := Hd hS
 have HN := Hd hN
 have hw : N ≤ w.heap.size := by omega
 simp only at hl ⊢
 clear hS hN
 go_enter Tryz.func45, Tryz.ntmps45
 go_wp2_with fail
 go_loopw [5, 10] (fun o i wr => ∃ (k : Nat) (A : Option Addr) (c : Nat), k ≤ sl.length ∧ i = .int .i64 k ∧ o = .slice A k c ∧ OwnS wr N A c ((sl.take k).map (·.name)) ∧ Below N w wr) (fun _ i _ => sl.length - (intOf i).toNat)
 case atStart => exact ⟨0, none, 0, Nat.zero_le _, rfl, rfl, OwnS.none_ _ _, Below.refl _ _⟩
 case round =>
  obtain ⟨k, A, c, hk, rfl, rfl, hO, hB⟩ := hrel
  have HO := Hd hO
  have HB := Hd hB
  have hsz : N ≤ wr.heap.size := by have := hB.size; omega
  clear hO hB
  by_cases hlt : k < sl.length
  ·obtain ⟨b2, off2, x, hA2, hb2, hx, _, hc2⟩ := (HS.out.below HB.out).at_ zgg (by omega) hlt
   have p0 := hc2 0 _ rfl; have p1 := hc2 1 _ rfl
   simp only [Nat.add_zero] at p0
   simp only at hA2
   have HX := Hd hx
   have hk1 : (k : Int) < sl.length := by omega
   have hkt : ((sl.take k).map (·.name)).length = k := by simp; omega
   have HKT := Hd hkt
   subst hA2
   clear hc2 hx hkt
   go_wp2_with fail
   refine Calls.named ?_
   intro W4 hW4
   have HO4 := Hd (HO.out.below (show Below wr.heap.size wr W4 by rw [hW4]; exact (Below.refl _ _).alloc (Nat.le_refl _) _))
   have HB4 := Hd (show Below N w W4 by rw [hW4]; exact HB.out.alloc hsz _)
   have hsz4 : N ≤ W4.heap.size := by rw [hW4]; simp; omega
   clear hW4
   refine (headerName_any x W4).mono ?_
   rintro e w5 ⟨rfl, hb5⟩
   have HB5 := Hd ((HB4.out.trans (hb5.mono hsz4)).alloc (Nat.le_trans hsz4 hb5.size) (.cells #[.string x.name] 9))
   have HO5 := Hd ((HO4.out.below hb5).below ((Below.refl _ w5).alloc (Nat.le_refl _) (.cells #[.string x.name] 9)))
   have hsz5 : N ≤ w5.heap.size := Nat.le_trans hsz4 hb5.size
   clear hb5
   go_wp2_with (at_builtin; refine zib rfl (.tmp 14) (.tmp 18) rfl N A k c ((sl.take k).map (·.name)) HKT.out rfl HO5.out _ _ 1 _ [x.name] rfl rfl (zqd _ w5.heap.size rfl x.name) (by omega) (by simp; omega) ?_; intro A2 c2 w8 hO2 hG2; have HO2 := Hd hO2; have HB8 := Hd (HO5.out.step HB5.out hG2 (Nat.le_refl _) (by simp; omega)); clear hO2 hG2)
   go_roundw
   case rel => exact ⟨k + 1, A2, c2, by omega, by go_num, rfl, by have := HO2.out; rw [List.take_add_one, HX.out, List.map_append]; exact this, HB8.out⟩
   case measure => simp [intOf]; omega
  ·obtain rfl : k = sl.length := by omega
   clear hlt
   go_wp2_with fail
   go_returns
   exact ⟨⟨A, c, by rw [List.length_map]; try rfl, by rw [HN.out]; have := HO.out; rwa [List.take_length] at this⟩, HB.out⟩
set_option maxRecDepth 100000 in
set_option maxHeartbeats 1000000 in
theorem namesFld_any {ok : FldD → Prop} (s : SL FldD) (w : World) (hS : SLR w w.heap.size 2 FldD.enc ok s) (hl : s.l.length ≤ 1000) :
  Calls Tryz.prog 49 #[.slice s.a s.l.length s.c, .func (.func 50) #[] #[]] w fun e w' => NamesP w (s.l.map (·.name)) e w' ∧ Below w.heap.size w w' := by
 obtain ⟨N, hN⟩ : ∃ N, w.heap.size = N := ⟨_, rfl⟩
 rw [hN] at hS ⊢
 obtain ⟨sa, sc, sl⟩ := s
 have HS := Hd hS
 have HN := Hd hN
 have hw : N ≤ w.heap.size := by omega
 simp only at hl ⊢
 clear hS hN
 go_enter Tryz.func49, Tryz.ntmps49
 go_wp2_with fail
 go_loopw [5, 10] (fun o i wr => ∃ (k : Nat) (A : Option Addr) (c : Nat), k ≤ sl.length ∧ i = .int .i64 k ∧ o = .slice A k c ∧ OwnS wr N A c ((sl.take k).map (·.name)) ∧ Below N w wr) (fun _ i _ => sl.length - (intOf i).toNat)
 case atStart => exact ⟨0, none, 0, Nat.zero_le _, rfl, rfl, OwnS.none_ _ _, Below.refl _ _⟩
 case round =>
  obtain ⟨k, A, c, hk, rfl, rfl, hO, hB⟩ := hrel
  have HO := Hd hO
  have HB := Hd hB
  have hsz : N ≤ wr.heap.size := by have := hB.size; omega
  clear hO hB
  by_cases hlt : k < sl.length
  ·obtain ⟨b2, off2, x, hA2, hb2, hx, _, hc2⟩ := (HS.out.below HB.out).at_ zFb (by omega) hlt
   have p0 := hc2 0 _ rfl; have p1 := hc2 1 _ rfl
   simp only [Nat.add_zero] at p0
   simp only at hA2
   have HX := Hd hx
   have hk1 : (k : Int) < sl.length := by omega
   have hkt : ((sl.take k).map (·.name)).length = k := by simp; omega
   have HKT := Hd hkt
   subst hA2
   clear hc2 hx hkt
   go_wp2_with fail
   refine Calls.named ?_
   intro W4 hW4
   have HO4 := Hd (HO.out.below (show Below wr.heap.size wr W4 by rw [hW4]; exact (Below.refl _ _).alloc (Nat.le_refl _) _))
   have HB4 := Hd (show Below N w W4 by rw [hW4]; exact HB.out.alloc hsz _)
   have hsz4 : N ≤ W4.heap.size := by rw [hW4]; simp; omega
   clear hW4
   refine (fieldName_any x W4).mono ?_
   rintro e w5 ⟨rfl, hb5⟩
   have HB5 := Hd ((HB4.out.trans (hb5.mono hsz4)).alloc (Nat.le_trans hsz4 hb5.size) (.cells #[.string x.name] 9))
   have HO5 := Hd ((HO4.out.below hb5).below ((Below.refl _ w5).alloc (Nat.le_refl _) (.cells #[.string x.name] 9)))
   have hsz5 : N ≤ w5.heap.size := Nat.le_trans hsz4 hb5.size
   clear hb5
   go_wp2_with (at_builtin; refine zib rfl (.tmp 14) (.tmp 18) rfl N A k c ((sl.take k).map (·.name)) HKT.out rfl HO5.out _ _ 1 _ [x.name] rfl rfl (zqd _ w5.heap.size rfl x.name) (by omega) (by simp; omega) ?_; intro A2 c2 w8 hO2 hG2; have HO2 := Hd hO2; have HB8 := Hd (HO5.out.step HB5.out hG2 (Nat.le_refl _) (by simp; omega)); clear hO2 hG2)
   go_roundw
   case rel => exact ⟨k + 1, A2, c2, by omega, by go_num, rfl, by have := HO2.out; rw [List.take_add_one, HX.out, List.map_append]; exact this, HB8.out⟩
   case measure => simp [intOf]; omega
  ·obtain rfl : k = sl.length := by omega
   clear hlt
   go_wp2_with fail
   go_returns
   exact ⟨⟨A, c, by rw [List.length_map]; try rfl, by rw [HN.out]; have := HO.out; rwa [List.take_length] at this⟩, HB.out⟩
set_option maxRecDepth 100000 in
set_option maxHeartbeats 1000000 in
theorem namesReg_any {ok : RegD → Prop} (s : SL RegD) (w : World) (hS : SLR w w.heap.size 3 RegD.enc ok s) (hl : s.l.length ≤ 1000) :
  Calls Tryz.prog 52 #[.slice s.a s.l.length s.c, .func (.func 53) #[] #[]] w fun e w' => NamesP w (s.l.map (·.name)) e w' ∧ Below w.heap.size w w' := by
 obtain ⟨N, hN⟩ : ∃ N, w.heap.size = N := ⟨_, rfl⟩
 rw [hN] at hS ⊢
 obtain ⟨sa, sc, sl⟩ := s
 have HS := Hd hS
 have HN := Hd hN
 have hw : N ≤ w.heap.size := by omega
 simp only at hl ⊢
 clear hS hN
 go_enter Tryz.func52, Tryz.ntmps52
 go_wp2_with fail
 go_loopw [5, 10] (fun o i wr => ∃ (k : Nat) (A : Option Addr) (c : Nat), k ≤ sl.length ∧ i = .int .i64 k ∧ o = .slice A k c ∧ OwnS wr N A c ((sl.take k).map (·.name)) ∧ Below N w wr) (fun _ i _ => sl.length - (intOf i).toNat)
 case atStart => exact ⟨0, none, 0, Nat.zero_le _, rfl, rfl, OwnS.none_ _ _, Below.refl _ _⟩
 case round =>
  obtain ⟨k, A, c, hk, rfl, rfl, hO, hB⟩ := hrel
  have HO := Hd hO
  have HB := Hd hB
  have hsz : N ≤ wr.heap.size := by have := hB.size; omega
  clear hO hB
  by_cases hlt : k < sl.length
  ·obtain ⟨b2, off2, x, hA2, hb2, hx, _, hc2⟩ := (HS.out.below HB.out).at_ reg_len (by omega) hlt
   have p0 := hc2 0 _ rfl; have p1 := hc2 1 _ rfl; have p2 := hc2 2 _ rfl
   simp only [Nat.add_zero] at p0
   simp only at hA2
   have HX := Hd hx
   have hk1 : (k : Int) < sl.length := by omega
   have hkt : ((sl.take k).map (·.name)).length = k := by simp; omega
   have HKT := Hd hkt
   subst hA2
   clear hc2 hx hkt
   go_wp2_with fail
   refine Calls.named ?_
   intro W4 hW4
   have HO4 := Hd (HO.out.below (show Below wr.heap.size wr W4 by rw [hW4]; exact (Below.refl _ _).alloc (Nat.le_refl _) _))
   have HB4 := Hd (show Below N w W4 by rw [hW4]; exact HB.out.alloc hsz _)
   have hsz4 : N ≤ W4.heap.size := by rw [hW4]; simp; omega
   clear hW4
   refine (zIf x W4).mono ?_
   rintro e w5 ⟨rfl, hb5⟩
   have HB5 := Hd ((HB4.out.trans (hb5.mono hsz4)).alloc (Nat.le_trans hsz4 hb5.size) (.cells #[.string x.name] 9))
   have HO5 := Hd ((HO4.out.below hb5).below ((Below.refl _ w5).alloc (Nat.le_refl _) (.cells #[.string x.name] 9)))
   have hsz5 : N ≤ w5.heap.size := Nat.le_trans hsz4 hb5.size
   clear hb5
   go_wp2_with (at_builtin; refine zib rfl (.tmp 14) (.tmp 18) rfl N A k c ((sl.take k).map (·.name)) HKT.out rfl HO5.out _ _ 1 _ [x.name] rfl rfl (zqd _ w5.heap.size rfl x.name) (by omega) (by simp; omega) ?_; intro A2 c2 w8 hO2 hG2; have HO2 := Hd hO2; have HB8 := Hd (HO5.out.step HB5.out hG2 (Nat.le_refl _) (by simp; omega)); clear hO2 hG2)
   go_roundw
   case rel => exact ⟨k + 1, A2, c2, by omega, by go_num, rfl, by have := HO2.out; rw [List.take_add_one, HX.out, List.map_append]; exact this, HB8.out⟩
   case measure => simp [intOf]; omega
  ·obtain rfl : k = sl.length := by omega
   clear hlt
   go_wp2_with fail
   go_returns
   exact ⟨⟨A, c, by rw [List.length_map]; try rfl, by rw [HN.out]; have := HO.out; rwa [List.take_length] at this⟩, HB.out⟩
set_option maxRecDepth 100000 in
set_option maxHeartbeats 1000000 in
theorem namesAct_any {ok : ActD → Prop} (s : SL ActD) (w : World) (hS : SLR w w.heap.size 3 ActD.enc ok s) (hl : s.l.length ≤ 1000) :
  Calls Tryz.prog 55 #[.slice s.a s.l.length s.c, .func (.func 56) #[] #[]] w fun e w' => NamesP w (s.l.map (·.name)) e w' ∧ Below w.heap.size w w' := by
 obtain ⟨N, hN⟩ : ∃ N, w.heap.size = N := ⟨_, rfl⟩
 rw [hN] at hS ⊢
 obtain ⟨sa, sc, sl⟩ := s
 have HS := Hd hS
 have HN := Hd hN
 have hw : N ≤ w.heap.size := by omega
 simp only at hl ⊢
 clear hS hN
 go_enter Tryz.func55, Tryz.ntmps55
 go_wp2_with fail
 go_loopw [5, 10] (fun o i wr => ∃ (k : Nat) (A : Option Addr) (c : Nat), k ≤ sl.length ∧ i = .int .i64 k ∧ o = .slice A k c ∧ OwnS wr N A c ((sl.take k).map (·.name)) ∧ Below N w wr) (fun _ i _ => sl.length - (intOf i).toNat)
 case atStart => exact ⟨0, none, 0, Nat.zero_le _, rfl, rfl, OwnS.none_ _ _, Below.refl _ _⟩
 case round =>
  obtain ⟨k, A, c, hk, rfl, rfl, hO, hB⟩ := hrel
  have HO := Hd hO
  have HB := Hd hB
  have hsz : N ≤ wr.heap.size := by have := hB.size; omega
  clear hO hB
  by_cases hlt : k < sl.length
  ·obtain ⟨b2, off2, x, hA2, hb2, hx, _, hc2⟩ := (HS.out.below HB.out).at_ zdg (by omega) hlt
   have p0 := hc2 0 _ rfl; have p1 := hc2 1 _ rfl; have p2 := hc2 2 _ rfl
   simp only [Nat.add_zero] at p0
   simp only at hA2
   have HX := Hd hx
   have hk1 : (k : Int) < sl.length := by omega
   have hkt : ((sl.take k).map (·.name)).length = k := by simp; omega
   have HKT := Hd hkt
   subst hA2
   clear hc2 hx hkt
   go_wp2_with fail
   refine Calls.named ?_
   intro W4 hW4
   have HO4 := Hd (HO.out.below (show Below wr.heap.size wr W4 by rw [hW4]; exact (Below.refl _ _).alloc (Nat.le_refl _) _))
   have HB4 := Hd (show Below N w W4 by rw [hW4]; exact HB.out.alloc hsz _)
   have hsz4 : N ≤ W4.heap.size := by rw [hW4]; simp; omega
   clear hW4
   refine (actionName_any x W4).mono ?_
   rintro e w5 ⟨rfl, hb5⟩
   have HB5 := Hd ((HB4.out.trans (hb5.mono hsz4)).alloc (Nat.le_trans hsz4 hb5.size) (.cells #[.string x.name] 9))
   have HO5 := Hd ((HO4.out.below hb5).below ((Below.refl _ w5).alloc (Nat.le_refl _) (.cells #[.string x.name] 9)))
   have hsz5 : N ≤ w5.heap.size := Nat.le_trans hsz4 hb5.size
   clear hb5
   go_wp2_with (at_builtin; refine zib rfl (.tmp 14) (.tmp 18) rfl N A k c ((sl.take k).map (·.name)) HKT.out rfl HO5.out _ _ 1 _ [x.name] rfl rfl (zqd _ w5.heap.size rfl x.name) (by omega) (by simp; omega) ?_; intro A2 c2 w8 hO2 hG2; have HO2 := Hd hO2; have HB8 := Hd (HO5.out.step HB5.out hG2 (Nat.le_refl _) (by simp; omega)); clear hO2 hG2)
   go_roundw
   case rel => exact ⟨k + 1, A2, c2, by omega, by go_num, rfl, by have := HO2.out; rw [List.take_add_one, HX.out, List.map_append]; exact this, HB8.out⟩
   case measure => simp [intOf]; omega
  ·obtain rfl : k = sl.length := by omega
   clear hlt
   go_wp2_with fail
   go_returns
   exact ⟨⟨A, c, by rw [List.length_map]; try rfl, by rw [HN.out]; have := HO.out; rwa [List.take_length] at this⟩, HB.out⟩
set_option maxRecDepth 100000 in
set_option maxHeartbeats 1000000 in
theorem namesTbl_any {ok : TblD → Prop} (s : SL TblD) (w : World) (hS : SLR w w.heap.size 6 TblD.enc ok s) (hl : s.l.length ≤ 1000) :
  Calls Tryz.prog 58 #[.slice s.a s.l.length s.c, .func (.func 59) #[] #[]] w fun e w' => NamesP w (s.l.map (·.name)) e w' ∧ Below w.heap.size w w' := by
 obtain ⟨N, hN⟩ : ∃ N, w.heap.size = N := ⟨_, rfl⟩
 rw [hN] at hS ⊢
 obtain ⟨sa, sc, sl⟩ := s
 have HS := Hd hS
 have HN := Hd hN
 have hw : N ≤ w.heap.size := by omega
 simp only at hl ⊢
 clear hS hN
 go_enter Tryz.func58, Tryz.ntmps58
 go_wp2_with fail
 go_loopw [5, 10] (fun o i wr => ∃ (k : Nat) (A : Option Addr) (c : Nat), k ≤ sl.length ∧ i = .int .i64 k ∧ o = .slice A k c ∧ OwnS wr N A c ((sl.take k).map (·.name)) ∧ Below N w wr) (fun _ i _ => sl.length - (intOf i).toNat)
 case atStart => exact ⟨0, none, 0, Nat.zero_le _, rfl, rfl, OwnS.none_ _ _, Below.refl _ _⟩
 case round =>
  obtain ⟨k, A, c, hk, rfl, rfl, hO, hB⟩ := hrel
  have HO := Hd hO
  have HB := Hd hB
  have hsz : N ≤ wr.heap.size := by have := hB.size; omega
  clear hO hB
  by_cases hlt : k < sl.length
  ·obtain ⟨b2, off2, x, hA2, hb2, hx, _, hc2⟩ := (HS.out.below HB.out).at_ tbl_len (by omega) hlt
   have p0 := hc2 0 _ rfl; have p1 := hc2 1 _ rfl; have p2 := hc2 2 _ rfl; have p3 := hc2 3 _ rfl; have p4 := hc2 4 _ rfl; have p5 := hc2 5 _ rfl
   simp only [Nat.add_zero] at p0
   simp only at hA2
   have HX := Hd hx
   have hk1 : (k : Int) < sl.length := by omega
   have hkt : ((sl.take k).map (·.name)).length = k := by simp; omega
   have HKT := Hd hkt
   subst hA2
   clear hc2 hx hkt
   go_wp2_with fail
   refine Calls.named ?_
   intro W4 hW4
   have HO4 := Hd (HO.out.below (show Below wr.heap.size wr W4 by rw [hW4]; exact (Below.refl _ _).alloc (Nat.le_refl _) _))
   have HB4 := Hd (show Below N w W4 by rw [hW4]; exact HB.out.alloc hsz _)
   have hsz4 : N ≤ W4.heap.size := by rw [hW4]; simp; omega
   clear hW4
   refine (tableName_any x W4).mono ?_
   rintro e w5 ⟨rfl, hb5⟩
   have HB5 := Hd ((HB4.out.trans (hb5.mono hsz4)).alloc (Nat.le_trans hsz4 hb5.size) (.cells #[.string x.name] 9))
   have HO5 := Hd ((HO4.out.below hb5).below ((Below.refl _ w5).alloc (Nat.le_refl _) (.cells #[.string x.name] 9)))
   have hsz5 : N ≤ w5.heap.size := Nat.le_trans hsz4 hb5.size
   clear hb5
   go_wp2_with (at_builtin; refine zib rfl (.tmp 14) (.tmp 18) rfl N A k c ((sl.take k).map (·.name)) HKT.out rfl HO5.out _ _ 1 _ [x.name] rfl rfl (zqd _ w5.heap.size rfl x.name) (by omega) (by simp; omega) ?_; intro A2 c2 w8 hO2 hG2; have HO2 := Hd hO2; have HB8 := Hd (HO5.out.step HB5.out hG2 (Nat.le_refl _) (by simp; omega)); clear hO2 hG2)
   go_roundw
   case rel => exact ⟨k + 1, A2, c2, by omega, by go_num, rfl, by have := HO2.out; rw [List.take_add_one, HX.out, List.map_append]; exact this, HB8.out⟩
   case measure => simp [intOf]; omega
  ·obtain rfl : k = sl.length := by omega
   clear hlt
   go_wp2_with fail
   go_returns
   exact ⟨⟨A, c, by rw [List.length_map]; try rfl, by rw [HN.out]; have := HO.out; rwa [List.take_length] at this⟩, HB.out⟩
theorem zva (p i s : Int) (w : World) : Calls Tryz.prog 42 #[.int .i64 0, .int .i64 p, .int .i64 i, .int .i64 s] w fun e w' => e = .returned (.tuple #[]) ∧ w = w' := by
 go_enter Tryz.func42, Tryz.ntmps42
 go_wp2_with fail
 go_returns
 exact ⟨rfl, rfl⟩
abbrev failV (c p i s : Int) : Value := .iface 102 (.agg #[.int .i64 c, .int .i64 p, .int .i64 i, .int .i64 s])
theorem zla (c p i s : Int) (hc : c ≠ 0) (w : World) : Calls Tryz.prog 42 #[.int .i64 c, .int .i64 p, .int .i64 i, .int .i64 s] w fun e w' => e = .panicked [{ v := failV c p i s, recovered := false }] ∧ w = w' := by
 have hc1 : (c != 0) = true := by simp [hc]
 clear hc
 go_enter Tryz.func42, Tryz.ntmps42
 go_wp2_with fail
 exact ⟨rfl, rfl, rfl⟩
end Go.Proofs.YtakgiamhdpgoeaaGreat
