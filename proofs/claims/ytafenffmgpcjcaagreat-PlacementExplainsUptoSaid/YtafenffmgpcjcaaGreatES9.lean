/- Texts of the proof: ES9. -/
import Derived.Test.YtafenffmgpcjcaaGreatES8
import Derived.Test.YtafenffmgpcjcaaGreatES5
import Derived.Shelf.SlSortCmp.WholeK
import Derived.Shelf.SlSortCmp.NoneTotal
import Derived.Test.YtafenffmgpcjcaaGreatES7
namespace Go.Proofs.YtafenffmgpcjcaaGreat
open Go.RowKit Go.Proofs.YtafenffmgpcjcaaGreat.Vf
set_option linter.unusedVariables false
set_option linter.unusedSimpArgs false
set_option maxRecDepth 100000
set_option maxHeartbeats 4000000
theorem own_tc {k : List (Nat × Nat)} {l : List FV} {sz t : Nat} {x : AV} (h : OwnT k l sz x t) (h0 : 0 < sz) (hs : Scs l) : ∃ i : TC,i.av = x∧i.ok k∧((l = []∧i = .nil) ∨ (l ≠ []∧i = .own l t sz)):=by
 rcases h with ⟨rfl,rfl⟩ | ⟨h1,rfl,h2⟩
 ·exact ⟨.nil,rfl,trivial,.inl ⟨rfl,rfl⟩⟩
 ·exact ⟨.own l t sz,rfl,⟨h2,h0,hs⟩,.inr ⟨h1,rfl⟩⟩
theorem colSorted_d (d : PrgD) (l : List Int) {h : List (List AV)} {k : List (Nat × Nat)} {b t : Nat} {x : AV} (hl : l.length < 2^62) (ho : OwnT k (encL intF l) 1 x t) (hb : ix h b = some (aPrg d ++ [x])) :
  GivesD Tryz.prog 162 [.ref b 0] h k (fun y h' k'=>RetV h' y (· = ownF (encL intF (canZ l)))):=by
 refine GivesD.of_Wd Tryz.func162 rfl rfl rfl (by decide) ?_
 refine Wd.two (W.x mixed (by kernel_rfl) ?_)
 simp
 obtain ⟨i,hi1,hi2,hi3⟩:=own_tc ho (by decide) (intF_scs l)
 refine Wd.thawB (d:=0) (b:=b) (items:=(aPrg d).map TC.any ++ [i]) rfl (by
  show ix h b = _
  rw [hb,List.map_append,List.map_map,← hi1]
  rfl) (fun z hz=>by
  rcases List.mem_append.1 hz with hz | hz
  ·obtain ⟨y,_,rfl⟩:=List.mem_map.1 hz; exact trivial
  ·obtain rfl:=List.mem_singleton.1 hz; exact hi2) ?_ ?_
 ·rcases hi3 with ⟨_,rfl⟩ | ⟨_,rfl⟩
  ·exact List.nodup_nil
  ·exact List.nodup_cons.2 ⟨List.not_mem_nil,List.nodup_nil⟩
 rintro cs ⟨ts,hh,kk⟩ hcap ⟨rfl,rfl,ff,rfl⟩
 have hsl:=sortZM_len l
 rcases hi3 with ⟨h0,rfl⟩ | ⟨h0,rfl⟩
 ·obtain rfl : l = []:=by simpa [encL] using h0
  simp [aPrg,tcNew,tcBox]
  refine Wd.x mixed (by kernel_rfl) ?_
  simp
  refine call_x (sortZ_x (l:=[]) (.inl ⟨rfl,rfl⟩) (by decide)) ?_
  rintro _ _ _ ⟨rfl,rfl,rfl⟩
  simp [rPut]
  refine call_x (compZ_x (l:=[]) (.inl ⟨rfl,rfl⟩) (by decide)) ?_
  rintro _ _ _ ⟨rfl,rfl,rfl⟩
  simp [rPut,rCut,canZ_nil,ownF,encL]
 ·cases cs with
  | nil=>simp [aPrg,tcCap] at hcap
  | cons c cs =>
  have hcap : l.length ≤ c:=by simpa [aPrg,tcCap] using hcap
  have hne : l ≠ []:=fun e=>h0 (by rw [e]; rfl)
  simp only [aPrg,List.map_cons,List.map_nil,List.cons_append,List.nil_append,tcNew,tcBox,intF_cells,encL_length]
  refine Wd.x mixed (by kernel_rfl) ?_
  simp
  refine call_x (sortZ_x (l:=l) (.inr ⟨1,c,rfl,rfl,hcap⟩) hl) ?_
  rintro _ _ _ ⟨rfl,rfl,rfl⟩
  simp [rPut]
  refine call_x (compZ_x (l:=sortZM l) (.inr ⟨1,c,by rw [hsl],rfl,by omega⟩) (by omega)) ?_
  rintro _ _ _ ⟨rfl,rfl,rfl⟩
  simp [rPut,rCut]
  exact ret_cut rfl (by rw [hsl]; exact hcap) (by unfold ownF; rw [if_neg (fun e=>canZ_ne hne (by simpa [encL] using e))]; rfl)
end Go.Proofs.YtafenffmgpcjcaaGreat
namespace Go.Proofs.YtafenffmgpcjcaaGreat
open Go.RowKit
set_option linter.unusedVariables false
def cmpZ (x y : Int) : Int:=if x < y then -1 else if y < x then 1 else 0
def cmpF (x y : Int × Int) : Int:=if cmpZ x.1 y.1 ≠ 0 then cmpZ x.1 y.1 else cmpZ x.2 y.2
theorem cmpZ_any (x y : Int) (w : World) : Calls Tryz.prog 218 #[.int .i64 x,.int .i64 y] w fun e w'=>e = .returned (.int .i64 (cmpZ x y))∧w' = w:=by
 have h1 : (x != x) = false:=by simp
 have h2 : (y != y) = false:=by simp
 by_cases c1 : x < y
 ·have HV:=Lib.hid (show cmpZ x y = -1 by unfold cmpZ; rw [if_pos c1])
  go_enter Tryz.func218,Tryz.ntmps218
  go_wp2
  go_returns
  exact ⟨by rw [HV.out]; try rfl,rfl⟩
 ·have c1' : decide (x < y) = false:=decide_eq_false c1
  by_cases c2 : y < x
  ·have HV:=Lib.hid (show cmpZ x y = 1 by unfold cmpZ; rw [if_neg c1,if_pos c2])
   go_enter Tryz.func218,Tryz.ntmps218
   go_wp2
   go_returns
   exact ⟨by rw [HV.out]; try rfl,rfl⟩
  ·have c2' : decide (y < x) = false:=decide_eq_false c2
   have HV:=Lib.hid (show cmpZ x y = 0 by unfold cmpZ; rw [if_neg c1,if_neg c2])
   go_enter Tryz.func218,Tryz.ntmps218
   go_wp2
   go_returns
   exact ⟨by rw [HV.out]; try rfl,rfl⟩
theorem orZ_any (a b : Int) (g : Nat) (w : World) (hg : Blk w g 3 #[.int .i64 a,.int .i64 b]) : Calls Tryz.prog 217 #[.slice (some ⟨g,0,none⟩) 2 2] w fun e w'=>e = .returned (.int .i64 (if a ≠ 0 then a else b))∧w = w':=by
 have g0 : w.cell? ⟨g,0,none⟩ = some (.int .i64 a):=hg.cell 0
 have g1 : w.cell? ⟨g,1,none⟩ = some (.int .i64 b):=hg.cell 1
 clear hg
 obtain ⟨z,hz⟩ : ∃ z,(if a ≠ 0 then a else b) = z:=⟨_,rfl⟩
 have HZ:=Lib.hid hz
 rw [hz]
 clear hz
 go_enter Tryz.func217,Tryz.ntmps217
 go_wp2_with fail
 go_loop [8] (fun i=>∃ k : Nat,k ≤ 2∧i = .int .i64 k∧(0 < k→a = 0)∧(1 < k→b = 0)) (fun i=>2 - (intOf i).toNat)
 case atStart=>exact ⟨0,by omega,rfl,fun h=>absurd h (by omega),fun h=>absurd h (by omega)⟩
 case round =>
  obtain ⟨k,hk,rfl,h0,h1⟩:=hrel
  have H0:=Lib.hid h0
  have H1:=Lib.hid h1
  clear h0 h1
  rcases (show k = 0 ∨ k = 1 ∨ k = 2 by omega) with rfl | rfl | rfl
  ·by_cases ca : a = 0
   ·have HA:=Lib.hid ca
    have ca' : (a != 0) = false:=by simp [ca]
    clear ca
    go_wp2_with fail
    go_round
    case rel=>exact ⟨1,by omega,rfl,fun _=>HA.out,fun h=>absurd h (by omega)⟩
    case measure=>simp [intOf]
   ·have ca' : (a != 0) = true:=by simp [ca]
    have HV:=Lib.hid (show z = a by rw [← HZ.out,if_pos ca])
    clear ca
    go_wp2_with fail
    go_returns
    exact ⟨by rw [HV.out]; try rfl,rfl⟩
  ·by_cases cb : b = 0
   ·have HB:=Lib.hid cb
    have HA:=Lib.hid (H0.out (by omega))
    have cb' : (b != 0) = false:=by simp [cb]
    clear cb
    go_wp2_with fail
    go_round
    case rel=>exact ⟨2,by omega,rfl,fun _=>HA.out,fun _=>HB.out⟩
    case measure=>simp [intOf]
   ·have cb' : (b != 0) = true:=by simp [cb]
    have HV:=Lib.hid (show z = b by rw [← HZ.out,if_neg (by simp [H0.out (by omega)])])
    clear cb
    go_wp2_with fail
    go_returns
    exact ⟨by rw [HV.out]; try rfl,rfl⟩
  ·have HV:=Lib.hid (show z = 0 by rw [← HZ.out,if_neg (by simp [H0.out (by omega)])]; exact H1.out (by omega))
   go_wp2_with fail
   go_returns
   exact ⟨by rw [HV.out]; try rfl,rfl⟩
def Grew (w u : World) : Prop:=∃ q os,u = Sort.grow (w.drewN q) os
theorem Grew.below {w u : World} (h : Grew w u) : Below w.heap.size w u:=by
 obtain ⟨q,os,rfl⟩:=h
 refine ⟨rfl,rfl,rfl,by simp [Sort.grow],fun k hk=>?_⟩
 show (w.heap ++ os)[k]? = _
 rw [Array.getElem?_append_left hk]
theorem Grew.refl (w : World) : Grew w w:=⟨0,#[],by simp [Sort.grow,World.drewN]⟩
theorem Grew.drew {w u : World} (h : Grew w u) : Grew w u.drew:=by
 obtain ⟨q,os,rfl⟩:=h
 exact ⟨q + 1,os,rfl⟩
theorem Grew.alloc {w u : World} (h : Grew w u) (o : Obj) : Grew w (u.alloc o):=by
 obtain ⟨q,os,rfl⟩:=h
 exact ⟨q,os ++ #[o],by rw [Sort.alloc_eq_grow,Sort.grow_grow]⟩
theorem Grew.trans {w u v : World} (h : Grew w u) (h2 : Grew u v) : Grew w v:=by
 obtain ⟨q,os,rfl⟩:=h
 obtain ⟨q2,os2,rfl⟩:=h2
 exact ⟨q + q2,os ++ os2,by simp [Sort.grow,World.drewN,Nat.add_assoc]⟩
set_option maxRecDepth 100000 in
set_option maxHeartbeats 2000000 in
theorem sortedC_any (x y : Int × Int) (w : World) : Calls Tryz.prog 253 #[.agg #[.int .i64 x.1,.int .i64 x.2],.agg #[.int .i64 y.1,.int .i64 y.2]] w fun e w'=>e = .returned (.int .i64 (cmpF x y))∧Grew w w':=by
 obtain ⟨x1,x2⟩:=x
 obtain ⟨y1,y2⟩:=y
 obtain ⟨N,hN⟩ : ∃ N,w.heap.size = N:=⟨_,rfl⟩
 have F0:=Fr.start w
 rw [hN] at F0
 have HF0:=Lib.hid F0
 have HG0:=Lib.hid (Grew.refl w)
 obtain ⟨a,ha⟩ : ∃ z,cmpZ x1 y1 = z:=⟨_,rfl⟩
 obtain ⟨b,hb⟩ : ∃ z,cmpZ x2 y2 = z:=⟨_,rfl⟩
 have HA:=Lib.hid ha
 have HB:=Lib.hid hb
 have HV:=Lib.hid (show cmpF (x1,x2) (y1,y2) = if a ≠ 0 then a else b by unfold cmpF; simp only [ha,hb])
 rw [HV.out]
 obtain ⟨z,hz⟩ : ∃ z,(if a ≠ 0 then a else b) = z:=⟨_,rfl⟩
 have HZ:=Lib.hid hz
 rw [hz]
 clear F0 ha hb hz
 dsimp only
 go_enter Tryz.func253,Tryz.ntmps253
 go_wp2_with fail
 refine wp_named ?_
 intro W hW
 have F1:=((HF0.out.alloc _ _).alloc _ _).of_eq hW
 have G1 : Grew w W:=by rw [hW]; exact ((HG0.out.alloc _).alloc _)
 simp only [World.size_alloc,hN] at F1 ⊢
 have HF1:=Lib.hid F1
 have HG1:=Lib.hid G1
 clear F1 G1 hW
 obtain ⟨g0,l0,f0⟩:=HF1.out.at_mem (.head _)
 obtain ⟨g1,l1,f1⟩:=HF1.out.at_mem (.tail _ (.head _))
 dsimp only at g0 l0 f0 g1 l1 f1
 have hstab : LStable ([leq (.pointer (some ⟨N,0,none⟩)),leq (.int .i64 x1),leq (.pointer (some ⟨N + 1,0,none⟩)),leq (.int .i64 y1),leq (.int .i64 a),leq (.pointer (some ⟨N,1,none⟩)),leq (.int .i64 x2),leq (.pointer (some ⟨N + 1,1,none⟩)),leq (.int .i64 y2),leq (.int .i64 b),lat 0 (pLit N 3 2 #[.int .i64 a,.int .i64 b]),leq (.int .i64 z),leq (.int .i64 z)]):=LStable.cons_ (leq_st _) (LStable.cons_ (leq_st _) (LStable.cons_ (leq_st _) (LStable.cons_ (leq_st _) (LStable.cons_ (leq_st _) (LStable.cons_ (leq_st _) (LStable.cons_ (leq_st _) (LStable.cons_ (leq_st _) (LStable.cons_ (leq_st _) (LStable.cons_ (leq_st _) (LStable.cons_ (lat_st pLit_st) (LStable.cons_ (leq_st _) (LStable.cons_ (leq_st _) (LStable.nil_)))))))))))))
 refine wp_region_relL ⟨[],[(0,0),(0,0),(0,0),(0,0),(0,0),(0,0),(0,0),(0,0),(0,0),(0,0),(0,0),(0,0),(0,0)]⟩ (fun _ u=>Grew W u) ([leq (.pointer (some ⟨N,0,none⟩)),leq (.int .i64 x1),leq (.pointer (some ⟨N + 1,0,none⟩)),leq (.int .i64 y1),leq (.int .i64 a),leq (.pointer (some ⟨N,1,none⟩)),leq (.int .i64 x2),leq (.pointer (some ⟨N + 1,1,none⟩)),leq (.int .i64 y2),leq (.int .i64 b),lat 0 (pLit N 3 2 #[.int .i64 a,.int .i64 b]),leq (.int .i64 z),leq (.int .i64 z)]) (by kernel_rfl) (by kernel_rfl) (by kernel_rfl) (by kernel_rfl) ?_ ?_ ?_
 ·exact (Grew.refl _).drew
 ·show LooksL _ _ _ _ _ _ 0 _
  refine ⟨?_,?_,?_,?_,?_,?_,?_,?_,?_,?_,?_,?_,?_,trivial⟩
  ·intro j hj ρ y u hS hc hf hg hfree hdep
   obtain rfl : j = 0:=by have:=hj _ rfl; dsimp only at this; omega
   rw [chain_next (C:=⟨[],[(0,0),(0,0),(0,0),(0,0),(0,0),(0,0),(0,0),(0,0),(0,0),(0,0),(0,0),(0,0),(0,0)]⟩) (i:=0) (j:=0) (by rfl)]
   have e2 : ρ (.tmp 2) = .pointer (some ⟨N,0,none⟩):=hfree 2 rfl
   refine ⟨fun _=>?_,wanted_plain rfl⟩
   clear hdep hfree hj
   go_simp
   exact ⟨rfl,hS,KeepL.below (Below.refl _ _) _ _ 0 hstab⟩
  ·intro j hj ρ y u hS hc hf hg hfree hdep
   obtain rfl : j = 0:=by have:=hj _ rfl; dsimp only at this; omega
   rw [chain_next (C:=⟨[],[(0,0),(0,0),(0,0),(0,0),(0,0),(0,0),(0,0),(0,0),(0,0),(0,0),(0,0),(0,0),(0,0)]⟩) (i:=1) (j:=0) (by rfl)]
   have e5 : ρ (.tmp 5) = .pointer (some ⟨N,0,none⟩):=(hdep 0 _ 5 rfl rfl rfl).1
   refine ⟨fun _=>?_,wanted_plain rfl⟩
   clear hdep hfree hj
   have c0 : u.cell? ⟨N,0,none⟩ = some (.int .i64 x1):=(hS.below.cell (p:=⟨N,0,none⟩) l1).trans (g1 0)
   go_simp
   exact ⟨rfl,hS,KeepL.below (Below.refl _ _) _ _ 0 hstab⟩
  ·intro j hj ρ y u hS hc hf hg hfree hdep
   obtain rfl : j = 0:=by have:=hj _ rfl; dsimp only at this; omega
   rw [chain_next (C:=⟨[],[(0,0),(0,0),(0,0),(0,0),(0,0),(0,0),(0,0),(0,0),(0,0),(0,0),(0,0),(0,0),(0,0)]⟩) (i:=2) (j:=0) (by rfl)]
   have e3 : ρ (.tmp 3) = .pointer (some ⟨N + 1,0,none⟩):=hfree 3 rfl
   refine ⟨fun _=>?_,wanted_plain rfl⟩
   clear hdep hfree hj
   go_simp
   exact ⟨rfl,hS,KeepL.below (Below.refl _ _) _ _ 0 hstab⟩
  ·intro j hj ρ y u hS hc hf hg hfree hdep
   obtain rfl : j = 0:=by have:=hj _ rfl; dsimp only at this; omega
   rw [chain_next (C:=⟨[],[(0,0),(0,0),(0,0),(0,0),(0,0),(0,0),(0,0),(0,0),(0,0),(0,0),(0,0),(0,0),(0,0)]⟩) (i:=3) (j:=0) (by rfl)]
   have e7 : ρ (.tmp 7) = .pointer (some ⟨N + 1,0,none⟩):=(hdep 2 _ 7 rfl rfl rfl).1
   refine ⟨fun _=>?_,wanted_plain rfl⟩
   clear hdep hfree hj
   have c0 : u.cell? ⟨N + 1,0,none⟩ = some (.int .i64 y1):=(hS.below.cell (p:=⟨N + 1,0,none⟩) l0).trans (g0 0)
   go_simp
   exact ⟨rfl,hS,KeepL.below (Below.refl _ _) _ _ 0 hstab⟩
  ·intro j hj ρ y u hS hc hf hg hfree hdep
   obtain rfl : j = 0:=by have:=hj _ rfl; dsimp only at this; omega
   rw [chain_next (C:=⟨[],[(0,0),(0,0),(0,0),(0,0),(0,0),(0,0),(0,0),(0,0),(0,0),(0,0),(0,0),(0,0),(0,0)]⟩) (i:=4) (j:=0) (by rfl)]
   have e6 : ρ (.tmp 6) = .int .i64 x1:=(hdep 1 _ 6 rfl rfl rfl).1
   have e8 : ρ (.tmp 8) = .int .i64 y1:=(hdep 3 _ 8 rfl rfl rfl).1
   refine ⟨fun _=>?_,wanted_plain rfl⟩
   clear hdep hfree hj
   go_simp
   refine good_call (cmpZ_any x1 y1 u) ?_
   rintro e w' ⟨rfl,rfl⟩
   exact ⟨_,rfl,by rw [HA.out]; rfl,hS,KeepL.below (Below.refl _ _) _ _ 0 hstab⟩
  ·intro j hj ρ y u hS hc hf hg hfree hdep
   obtain rfl : j = 0:=by have:=hj _ rfl; dsimp only at this; omega
   rw [chain_next (C:=⟨[],[(0,0),(0,0),(0,0),(0,0),(0,0),(0,0),(0,0),(0,0),(0,0),(0,0),(0,0),(0,0),(0,0)]⟩) (i:=5) (j:=0) (by rfl)]
   have e2 : ρ (.tmp 2) = .pointer (some ⟨N,0,none⟩):=hfree 2 rfl
   refine ⟨fun _=>?_,wanted_plain rfl⟩
   clear hdep hfree hj
   go_simp
   exact ⟨rfl,hS,KeepL.below (Below.refl _ _) _ _ 0 hstab⟩
  ·intro j hj ρ y u hS hc hf hg hfree hdep
   obtain rfl : j = 0:=by have:=hj _ rfl; dsimp only at this; omega
   rw [chain_next (C:=⟨[],[(0,0),(0,0),(0,0),(0,0),(0,0),(0,0),(0,0),(0,0),(0,0),(0,0),(0,0),(0,0),(0,0)]⟩) (i:=6) (j:=0) (by rfl)]
   have e10 : ρ (.tmp 10) = .pointer (some ⟨N,1,none⟩):=(hdep 5 _ 10 rfl rfl rfl).1
   refine ⟨fun _=>?_,wanted_plain rfl⟩
   clear hdep hfree hj
   have c0 : u.cell? ⟨N,1,none⟩ = some (.int .i64 x2):=(hS.below.cell (p:=⟨N,1,none⟩) l1).trans (g1 1)
   go_simp
   exact ⟨rfl,hS,KeepL.below (Below.refl _ _) _ _ 0 hstab⟩
  ·intro j hj ρ y u hS hc hf hg hfree hdep
   obtain rfl : j = 0:=by have:=hj _ rfl; dsimp only at this; omega
   rw [chain_next (C:=⟨[],[(0,0),(0,0),(0,0),(0,0),(0,0),(0,0),(0,0),(0,0),(0,0),(0,0),(0,0),(0,0),(0,0)]⟩) (i:=7) (j:=0) (by rfl)]
   have e3 : ρ (.tmp 3) = .pointer (some ⟨N + 1,0,none⟩):=hfree 3 rfl
   refine ⟨fun _=>?_,wanted_plain rfl⟩
   clear hdep hfree hj
   go_simp
   exact ⟨rfl,hS,KeepL.below (Below.refl _ _) _ _ 0 hstab⟩
  ·intro j hj ρ y u hS hc hf hg hfree hdep
   obtain rfl : j = 0:=by have:=hj _ rfl; dsimp only at this; omega
   rw [chain_next (C:=⟨[],[(0,0),(0,0),(0,0),(0,0),(0,0),(0,0),(0,0),(0,0),(0,0),(0,0),(0,0),(0,0),(0,0)]⟩) (i:=8) (j:=0) (by rfl)]
   have e12 : ρ (.tmp 12) = .pointer (some ⟨N + 1,1,none⟩):=(hdep 7 _ 12 rfl rfl rfl).1
   refine ⟨fun _=>?_,wanted_plain rfl⟩
   clear hdep hfree hj
   have c0 : u.cell? ⟨N + 1,1,none⟩ = some (.int .i64 y2):=(hS.below.cell (p:=⟨N + 1,1,none⟩) l0).trans (g0 1)
   go_simp
   exact ⟨rfl,hS,KeepL.below (Below.refl _ _) _ _ 0 hstab⟩
  ·intro j hj ρ y u hS hc hf hg hfree hdep
   obtain rfl : j = 0:=by have:=hj _ rfl; dsimp only at this; omega
   rw [chain_next (C:=⟨[],[(0,0),(0,0),(0,0),(0,0),(0,0),(0,0),(0,0),(0,0),(0,0),(0,0),(0,0),(0,0),(0,0)]⟩) (i:=9) (j:=0) (by rfl)]
   have e11 : ρ (.tmp 11) = .int .i64 x2:=(hdep 6 _ 11 rfl rfl rfl).1
   have e13 : ρ (.tmp 13) = .int .i64 y2:=(hdep 8 _ 13 rfl rfl rfl).1
   refine ⟨fun _=>?_,wanted_plain rfl⟩
   clear hdep hfree hj
   go_simp
   refine good_call (cmpZ_any x2 y2 u) ?_
   rintro e w' ⟨rfl,rfl⟩
   exact ⟨_,rfl,by rw [HB.out]; rfl,hS,KeepL.below (Below.refl _ _) _ _ 0 hstab⟩
  ·intro j hj ρ y u hS hc hf hg hfree hdep
   obtain rfl : j = 0:=by have:=hj _ rfl; dsimp only at this; omega
   rw [chain_next (C:=⟨[],[(0,0),(0,0),(0,0),(0,0),(0,0),(0,0),(0,0),(0,0),(0,0),(0,0),(0,0),(0,0),(0,0)]⟩) (i:=10) (j:=0) (by rfl)]
   have e9 : ρ (.tmp 9) = .int .i64 a:=(hdep 4 _ 9 rfl rfl rfl).1
   have e14 : ρ (.tmp 14) = .int .i64 b:=(hdep 9 _ 14 rfl rfl rfl).1
   refine ⟨fun _=>?_,wanted_plain rfl⟩
   clear hdep hfree hj
   go_simp
   exact ⟨(fun _=>⟨u.heap.size,rfl,by have:=hS.below.size; omega,Blk.new _ _ _⟩),hS.alloc _,KeepL.below ((Below.refl _ _).alloc (Nat.le_refl _) _) _ _ 0 hstab⟩
  ·intro j hj ρ y u hS hc hf hg hfree hdep
   obtain rfl : j = 0:=by have:=hj _ rfl; dsimp only at this; omega
   rw [chain_next (C:=⟨[],[(0,0),(0,0),(0,0),(0,0),(0,0),(0,0),(0,0),(0,0),(0,0),(0,0),(0,0),(0,0),(0,0)]⟩) (i:=11) (j:=0) (by rfl)]
   have r15:=(hdep 10 _ 15 rfl rfl rfl).1
   refine ⟨fun _=>?_,wanted_plain rfl⟩
   clear hdep hfree hj
   obtain ⟨g,e15,_,hB15⟩:=r15 rfl
   go_simp
   refine good_call (orZ_any a b g u hB15) ?_
   rintro e w' ⟨rfl,rfl⟩
   exact ⟨_,rfl,by rw [HZ.out]; rfl,hS,KeepL.below (Below.refl _ _) _ _ 0 hstab⟩
  ·intro j hj ρ y u hS hc hf hg hfree hdep
   obtain rfl : j = 0:=by have:=hj _ rfl; dsimp only at this; omega
   rw [chain_next (C:=⟨[],[(0,0),(0,0),(0,0),(0,0),(0,0),(0,0),(0,0),(0,0),(0,0),(0,0),(0,0),(0,0),(0,0)]⟩) (i:=12) (j:=0) (by rfl)]
   have e16 : ρ (.tmp 16) = .int .i64 z:=(hdep 11 _ 16 rfl rfl rfl).1
   refine ⟨fun _=>?_,wanted_plain rfl⟩
   clear hdep hfree hj
   go_simp
   exact ⟨rfl,hS,KeepL.below (Below.refl _ _) _ _ 0 hstab⟩
 intro u hS
 rintro _ rfl _ rfl _ rfl _ rfl _ rfl _ rfl _ rfl _ rfl _ rfl _ rfl _ r_15 _ rfl _ rfl
 simp only [RegEnd,Act.put,List.setIfInBounds_toArray,List.set_cons_zero,List.set_cons_succ]
 go_wp2_with fail
 go_returns
 exact ⟨rfl,HG1.out.trans hS⟩
set_option maxRecDepth 100000 in
set_option maxHeartbeats 2000000 in
theorem fieldsC_any (x y : Int × Int) (w : World) : Calls Tryz.prog 216 #[.agg #[.int .i64 x.1,.int .i64 x.2],.agg #[.int .i64 y.1,.int .i64 y.2]] w fun e w'=>e = .returned (.int .i64 (cmpF x y))∧Grew w w':=by
 obtain ⟨x1,x2⟩:=x
 obtain ⟨y1,y2⟩:=y
 obtain ⟨N,hN⟩ : ∃ N,w.heap.size = N:=⟨_,rfl⟩
 have F0:=Fr.start w
 rw [hN] at F0
 have HF0:=Lib.hid F0
 have HG0:=Lib.hid (Grew.refl w)
 obtain ⟨a,ha⟩ : ∃ z,cmpZ x1 y1 = z:=⟨_,rfl⟩
 obtain ⟨b,hb⟩ : ∃ z,cmpZ x2 y2 = z:=⟨_,rfl⟩
 have HA:=Lib.hid ha
 have HB:=Lib.hid hb
 have HV:=Lib.hid (show cmpF (x1,x2) (y1,y2) = if a ≠ 0 then a else b by unfold cmpF; simp only [ha,hb])
 rw [HV.out]
 obtain ⟨z,hz⟩ : ∃ z,(if a ≠ 0 then a else b) = z:=⟨_,rfl⟩
 have HZ:=Lib.hid hz
 rw [hz]
 clear F0 ha hb hz
 dsimp only
 go_enter Tryz.func216,Tryz.ntmps216
 go_wp2_with fail
 refine wp_named ?_
 intro W hW
 have F1:=((HF0.out.alloc _ _).alloc _ _).of_eq hW
 have G1 : Grew w W:=by rw [hW]; exact ((HG0.out.alloc _).alloc _)
 simp only [World.size_alloc,hN] at F1 ⊢
 have HF1:=Lib.hid F1
 have HG1:=Lib.hid G1
 clear F1 G1 hW
 obtain ⟨g0,l0,f0⟩:=HF1.out.at_mem (.head _)
 obtain ⟨g1,l1,f1⟩:=HF1.out.at_mem (.tail _ (.head _))
 dsimp only at g0 l0 f0 g1 l1 f1
 have hstab : LStable ([leq (.pointer (some ⟨N,0,none⟩)),leq (.int .i64 x1),leq (.pointer (some ⟨N + 1,0,none⟩)),leq (.int .i64 y1),leq (.int .i64 a),leq (.pointer (some ⟨N,1,none⟩)),leq (.int .i64 x2),leq (.pointer (some ⟨N + 1,1,none⟩)),leq (.int .i64 y2),leq (.int .i64 b),lat 0 (pLit N 3 2 #[.int .i64 a,.int .i64 b]),leq (.int .i64 z),leq (.int .i64 z)]):=LStable.cons_ (leq_st _) (LStable.cons_ (leq_st _) (LStable.cons_ (leq_st _) (LStable.cons_ (leq_st _) (LStable.cons_ (leq_st _) (LStable.cons_ (leq_st _) (LStable.cons_ (leq_st _) (LStable.cons_ (leq_st _) (LStable.cons_ (leq_st _) (LStable.cons_ (leq_st _) (LStable.cons_ (lat_st pLit_st) (LStable.cons_ (leq_st _) (LStable.cons_ (leq_st _) (LStable.nil_)))))))))))))
 refine wp_region_relL ⟨[],[(0,0),(0,0),(0,0),(0,0),(0,0),(0,0),(0,0),(0,0),(0,0),(0,0),(0,0),(0,0),(0,0)]⟩ (fun _ u=>Grew W u) ([leq (.pointer (some ⟨N,0,none⟩)),leq (.int .i64 x1),leq (.pointer (some ⟨N + 1,0,none⟩)),leq (.int .i64 y1),leq (.int .i64 a),leq (.pointer (some ⟨N,1,none⟩)),leq (.int .i64 x2),leq (.pointer (some ⟨N + 1,1,none⟩)),leq (.int .i64 y2),leq (.int .i64 b),lat 0 (pLit N 3 2 #[.int .i64 a,.int .i64 b]),leq (.int .i64 z),leq (.int .i64 z)]) (by kernel_rfl) (by kernel_rfl) (by kernel_rfl) (by kernel_rfl) ?_ ?_ ?_
 ·exact (Grew.refl _).drew
 ·show LooksL _ _ _ _ _ _ 0 _
  refine ⟨?_,?_,?_,?_,?_,?_,?_,?_,?_,?_,?_,?_,?_,trivial⟩
  ·intro j hj ρ y u hS hc hf hg hfree hdep
   obtain rfl : j = 0:=by have:=hj _ rfl; dsimp only at this; omega
   rw [chain_next (C:=⟨[],[(0,0),(0,0),(0,0),(0,0),(0,0),(0,0),(0,0),(0,0),(0,0),(0,0),(0,0),(0,0),(0,0)]⟩) (i:=0) (j:=0) (by rfl)]
   have e2 : ρ (.tmp 2) = .pointer (some ⟨N,0,none⟩):=hfree 2 rfl
   refine ⟨fun _=>?_,wanted_plain rfl⟩
   clear hdep hfree hj
   go_simp
   exact ⟨rfl,hS,KeepL.below (Below.refl _ _) _ _ 0 hstab⟩
  ·intro j hj ρ y u hS hc hf hg hfree hdep
   obtain rfl : j = 0:=by have:=hj _ rfl; dsimp only at this; omega
   rw [chain_next (C:=⟨[],[(0,0),(0,0),(0,0),(0,0),(0,0),(0,0),(0,0),(0,0),(0,0),(0,0),(0,0),(0,0),(0,0)]⟩) (i:=1) (j:=0) (by rfl)]
   have e5 : ρ (.tmp 5) = .pointer (some ⟨N,0,none⟩):=(hdep 0 _ 5 rfl rfl rfl).1
   refine ⟨fun _=>?_,wanted_plain rfl⟩
   clear hdep hfree hj
   have c0 : u.cell? ⟨N,0,none⟩ = some (.int .i64 x1):=(hS.below.cell (p:=⟨N,0,none⟩) l1).trans (g1 0)
   go_simp
   exact ⟨rfl,hS,KeepL.below (Below.refl _ _) _ _ 0 hstab⟩
  ·intro j hj ρ y u hS hc hf hg hfree hdep
   obtain rfl : j = 0:=by have:=hj _ rfl; dsimp only at this; omega
   rw [chain_next (C:=⟨[],[(0,0),(0,0),(0,0),(0,0),(0,0),(0,0),(0,0),(0,0),(0,0),(0,0),(0,0),(0,0),(0,0)]⟩) (i:=2) (j:=0) (by rfl)]
   have e3 : ρ (.tmp 3) = .pointer (some ⟨N + 1,0,none⟩):=hfree 3 rfl
   refine ⟨fun _=>?_,wanted_plain rfl⟩
   clear hdep hfree hj
   go_simp
   exact ⟨rfl,hS,KeepL.below (Below.refl _ _) _ _ 0 hstab⟩
  ·intro j hj ρ y u hS hc hf hg hfree hdep
   obtain rfl : j = 0:=by have:=hj _ rfl; dsimp only at this; omega
   rw [chain_next (C:=⟨[],[(0,0),(0,0),(0,0),(0,0),(0,0),(0,0),(0,0),(0,0),(0,0),(0,0),(0,0),(0,0),(0,0)]⟩) (i:=3) (j:=0) (by rfl)]
   have e7 : ρ (.tmp 7) = .pointer (some ⟨N + 1,0,none⟩):=(hdep 2 _ 7 rfl rfl rfl).1
   refine ⟨fun _=>?_,wanted_plain rfl⟩
   clear hdep hfree hj
   have c0 : u.cell? ⟨N + 1,0,none⟩ = some (.int .i64 y1):=(hS.below.cell (p:=⟨N + 1,0,none⟩) l0).trans (g0 0)
   go_simp
   exact ⟨rfl,hS,KeepL.below (Below.refl _ _) _ _ 0 hstab⟩
  ·intro j hj ρ y u hS hc hf hg hfree hdep
   obtain rfl : j = 0:=by have:=hj _ rfl; dsimp only at this; omega
   rw [chain_next (C:=⟨[],[(0,0),(0,0),(0,0),(0,0),(0,0),(0,0),(0,0),(0,0),(0,0),(0,0),(0,0),(0,0),(0,0)]⟩) (i:=4) (j:=0) (by rfl)]
   have e6 : ρ (.tmp 6) = .int .i64 x1:=(hdep 1 _ 6 rfl rfl rfl).1
   have e8 : ρ (.tmp 8) = .int .i64 y1:=(hdep 3 _ 8 rfl rfl rfl).1
   refine ⟨fun _=>?_,wanted_plain rfl⟩
   clear hdep hfree hj
   go_simp
   refine good_call (cmpZ_any x1 y1 u) ?_
   rintro e w' ⟨rfl,rfl⟩
   exact ⟨_,rfl,by rw [HA.out]; rfl,hS,KeepL.below (Below.refl _ _) _ _ 0 hstab⟩
  ·intro j hj ρ y u hS hc hf hg hfree hdep
   obtain rfl : j = 0:=by have:=hj _ rfl; dsimp only at this; omega
   rw [chain_next (C:=⟨[],[(0,0),(0,0),(0,0),(0,0),(0,0),(0,0),(0,0),(0,0),(0,0),(0,0),(0,0),(0,0),(0,0)]⟩) (i:=5) (j:=0) (by rfl)]
   have e2 : ρ (.tmp 2) = .pointer (some ⟨N,0,none⟩):=hfree 2 rfl
   refine ⟨fun _=>?_,wanted_plain rfl⟩
   clear hdep hfree hj
   go_simp
   exact ⟨rfl,hS,KeepL.below (Below.refl _ _) _ _ 0 hstab⟩
  ·intro j hj ρ y u hS hc hf hg hfree hdep
   obtain rfl : j = 0:=by have:=hj _ rfl; dsimp only at this; omega
   rw [chain_next (C:=⟨[],[(0,0),(0,0),(0,0),(0,0),(0,0),(0,0),(0,0),(0,0),(0,0),(0,0),(0,0),(0,0),(0,0)]⟩) (i:=6) (j:=0) (by rfl)]
   have e10 : ρ (.tmp 10) = .pointer (some ⟨N,1,none⟩):=(hdep 5 _ 10 rfl rfl rfl).1
   refine ⟨fun _=>?_,wanted_plain rfl⟩
   clear hdep hfree hj
   have c0 : u.cell? ⟨N,1,none⟩ = some (.int .i64 x2):=(hS.below.cell (p:=⟨N,1,none⟩) l1).trans (g1 1)
   go_simp
   exact ⟨rfl,hS,KeepL.below (Below.refl _ _) _ _ 0 hstab⟩
  ·intro j hj ρ y u hS hc hf hg hfree hdep
   obtain rfl : j = 0:=by have:=hj _ rfl; dsimp only at this; omega
   rw [chain_next (C:=⟨[],[(0,0),(0,0),(0,0),(0,0),(0,0),(0,0),(0,0),(0,0),(0,0),(0,0),(0,0),(0,0),(0,0)]⟩) (i:=7) (j:=0) (by rfl)]
   have e3 : ρ (.tmp 3) = .pointer (some ⟨N + 1,0,none⟩):=hfree 3 rfl
   refine ⟨fun _=>?_,wanted_plain rfl⟩
   clear hdep hfree hj
   go_simp
   exact ⟨rfl,hS,KeepL.below (Below.refl _ _) _ _ 0 hstab⟩
  ·intro j hj ρ y u hS hc hf hg hfree hdep
   obtain rfl : j = 0:=by have:=hj _ rfl; dsimp only at this; omega
   rw [chain_next (C:=⟨[],[(0,0),(0,0),(0,0),(0,0),(0,0),(0,0),(0,0),(0,0),(0,0),(0,0),(0,0),(0,0),(0,0)]⟩) (i:=8) (j:=0) (by rfl)]
   have e12 : ρ (.tmp 12) = .pointer (some ⟨N + 1,1,none⟩):=(hdep 7 _ 12 rfl rfl rfl).1
   refine ⟨fun _=>?_,wanted_plain rfl⟩
   clear hdep hfree hj
   have c0 : u.cell? ⟨N + 1,1,none⟩ = some (.int .i64 y2):=(hS.below.cell (p:=⟨N + 1,1,none⟩) l0).trans (g0 1)
   go_simp
   exact ⟨rfl,hS,KeepL.below (Below.refl _ _) _ _ 0 hstab⟩
  ·intro j hj ρ y u hS hc hf hg hfree hdep
   obtain rfl : j = 0:=by have:=hj _ rfl; dsimp only at this; omega
   rw [chain_next (C:=⟨[],[(0,0),(0,0),(0,0),(0,0),(0,0),(0,0),(0,0),(0,0),(0,0),(0,0),(0,0),(0,0),(0,0)]⟩) (i:=9) (j:=0) (by rfl)]
   have e11 : ρ (.tmp 11) = .int .i64 x2:=(hdep 6 _ 11 rfl rfl rfl).1
   have e13 : ρ (.tmp 13) = .int .i64 y2:=(hdep 8 _ 13 rfl rfl rfl).1
   refine ⟨fun _=>?_,wanted_plain rfl⟩
   clear hdep hfree hj
   go_simp
   refine good_call (cmpZ_any x2 y2 u) ?_
   rintro e w' ⟨rfl,rfl⟩
   exact ⟨_,rfl,by rw [HB.out]; rfl,hS,KeepL.below (Below.refl _ _) _ _ 0 hstab⟩
  ·intro j hj ρ y u hS hc hf hg hfree hdep
   obtain rfl : j = 0:=by have:=hj _ rfl; dsimp only at this; omega
   rw [chain_next (C:=⟨[],[(0,0),(0,0),(0,0),(0,0),(0,0),(0,0),(0,0),(0,0),(0,0),(0,0),(0,0),(0,0),(0,0)]⟩) (i:=10) (j:=0) (by rfl)]
   have e9 : ρ (.tmp 9) = .int .i64 a:=(hdep 4 _ 9 rfl rfl rfl).1
   have e14 : ρ (.tmp 14) = .int .i64 b:=(hdep 9 _ 14 rfl rfl rfl).1
   refine ⟨fun _=>?_,wanted_plain rfl⟩
   clear hdep hfree hj
   go_simp
   exact ⟨(fun _=>⟨u.heap.size,rfl,by have:=hS.below.size; omega,Blk.new _ _ _⟩),hS.alloc _,KeepL.below ((Below.refl _ _).alloc (Nat.le_refl _) _) _ _ 0 hstab⟩
  ·intro j hj ρ y u hS hc hf hg hfree hdep
   obtain rfl : j = 0:=by have:=hj _ rfl; dsimp only at this; omega
   rw [chain_next (C:=⟨[],[(0,0),(0,0),(0,0),(0,0),(0,0),(0,0),(0,0),(0,0),(0,0),(0,0),(0,0),(0,0),(0,0)]⟩) (i:=11) (j:=0) (by rfl)]
   have r15:=(hdep 10 _ 15 rfl rfl rfl).1
   refine ⟨fun _=>?_,wanted_plain rfl⟩
   clear hdep hfree hj
   obtain ⟨g,e15,_,hB15⟩:=r15 rfl
   go_simp
   refine good_call (orZ_any a b g u hB15) ?_
   rintro e w' ⟨rfl,rfl⟩
   exact ⟨_,rfl,by rw [HZ.out]; rfl,hS,KeepL.below (Below.refl _ _) _ _ 0 hstab⟩
  ·intro j hj ρ y u hS hc hf hg hfree hdep
   obtain rfl : j = 0:=by have:=hj _ rfl; dsimp only at this; omega
   rw [chain_next (C:=⟨[],[(0,0),(0,0),(0,0),(0,0),(0,0),(0,0),(0,0),(0,0),(0,0),(0,0),(0,0),(0,0),(0,0)]⟩) (i:=12) (j:=0) (by rfl)]
   have e16 : ρ (.tmp 16) = .int .i64 z:=(hdep 11 _ 16 rfl rfl rfl).1
   refine ⟨fun _=>?_,wanted_plain rfl⟩
   clear hdep hfree hj
   go_simp
   exact ⟨rfl,hS,KeepL.below (Below.refl _ _) _ _ 0 hstab⟩
 intro u hS
 rintro _ rfl _ rfl _ rfl _ rfl _ rfl _ rfl _ rfl _ rfl _ rfl _ rfl _ r_15 _ rfl _ rfl
 simp only [RegEnd,Act.put,List.setIfInBounds_toArray,List.set_cons_zero,List.set_cons_succ]
 go_wp2_with fail
 go_returns
 exact ⟨rfl,HG1.out.trans hS⟩
theorem ltF (x y : Int × Int) : ltOf cmpF x y = decide (x.1 < y.1 ∨ (x.1 = y.1∧x.2 < y.2)):=by
 unfold ltOf cmpF cmpZ
 by_cases h1 : x.1 < y.1
 ·simp [h1]
 ·by_cases h2 : y.1 < x.1
  ·simp [h1,h2]; omega
  ·have h3 : x.1 = y.1:=by omega
   by_cases h4 : x.2 < y.2
   ·simp [h3,h4]
   ·by_cases h5 : y.2 < x.2 <;> simp [h3,h4,h5]
theorem swoF : Sort.SWO (ltOf cmpF) where
 irrefl x:=by rw [ltF]; simp
 trans x y z h1 h2:=by rw [ltF] at *; simp at *; omega
 ntrans x y z h1 h2:=by rw [ltF] at *; simp at *; omega
set_option linter.unusedSimpArgs false
end Go.Proofs.YtafenffmgpcjcaaGreat
namespace Go.Proofs.YtafenffmgpcjcaaGreat
open Go.RowKit Go.Proofs.YtafenffmgpcjcaaGreat.Vf
set_option linter.unusedVariables false
set_option linter.unusedSimpArgs false
set_option maxRecDepth 100000
theorem flat_len {α : Type} {enc : α→List Value} {size : Nat} (h : ∀ x,(enc x).length = size) (l : List α) : (l.flatMap enc).length = l.length * size:=by
 induction l with
 | nil=>simp
 | cons x l ih=>rw [List.flatMap_cons,List.length_append,h,ih,List.length_cons,Nat.add_mul]; omega
theorem flat_get {α : Type} {enc : α→List Value} {size : Nat} (h : ∀ x,(enc x).length = size) {l : List α} {k i : Nat} {x : α} {v : Value} (hk : l[k]? = some x) (hi : (enc x)[i]? = some v) : (l.flatMap enc)[k * size + i]? = some v:=by
 induction l generalizing k with
 | nil=>cases hk
 | cons y l ih =>
  cases k with
  | zero =>
   obtain rfl : y = x:=by simpa using hk
   have hl : i < (enc y).length:=(List.getElem?_eq_some_iff.1 hi).1
   rw [List.flatMap_cons,Nat.zero_mul,Nat.zero_add,List.getElem?_append_left hl]
   exact hi
  | succ k =>
   rw [List.flatMap_cons,List.getElem?_append_right (by rw [h,Nat.add_mul]; omega),h,show (k + 1) * size + i - size = k * size + i by rw [Nat.add_mul]; omega]
   exact ih (by simpa using hk)
theorem flat_flatK {α : Type} [Inhabited α] (enc : α→List Value) (k : Nat) (hk : ∀ x,(enc x).length = k) (l : List α) : Sort.flatK enc k l.toArray = (l.flatMap enc).toArray:=by
 rcases Nat.eq_zero_or_pos k with rfl | hpos
 ·apply Array.ext
  ·simp [Sort.flatK,flat_len hk]
  ·intro i h1 h2
   simp [Sort.flatK] at h1
 ·apply Array.ext
  ·simp [Sort.flatK,flat_len hk]
  ·intro i h1 h2
   have hi : i < l.length * k:=by simpa [Sort.flatK] using h1
   have hq : i / k < l.length:=Nat.div_lt_of_lt_mul (by rw [Nat.mul_comm]; exact hi)
   have hr : i % k < k:=Nat.mod_lt _ hpos
   have hx : l[i / k]? = some l[i / k]:=List.getElem?_eq_getElem hq
   have hv : (enc l[i / k])[i % k]? = some ((enc l[i / k])[i % k]'(by rw [hk]; exact hr)):=List.getElem?_eq_getElem _
   have h3:=flat_get hk hx hv
   have h4 : i / k * k + i % k = i:=by rw [Nat.mul_comm]; exact Nat.div_add_mod i k
   rw [h4] at h3
   have h5 : (l.flatMap enc).toArray[i] = (enc l[i / k])[i % k]'(by rw [hk]; exact hr):=by
    have h6 : (l.flatMap enc).toArray[i]? = some ((enc l[i / k])[i % k]'(by rw [hk]; exact hr)):=by rw [List.getElem?_toArray]; exact h3
    rw [Array.getElem?_eq_getElem h2] at h6
    exact Option.some.inj h6
   rw [h5]
   simp [Sort.flatK,hq,hk,hr]
theorem permIn_list {α : Type} [Inhabited α] {l : List α} {d : Array α} (h : Sort.PermIn 0 l.toArray.size l.toArray d) : d.toList.Perm l:=by
 obtain ⟨h1,_,h3⟩:=h
 have e1 : (l.toArray.extract 0 l.toArray.size).toList = l:=by simp
 have e2 : (d.extract 0 l.toArray.size).toList = d.toList:=by rw [← h1]; simp
 rw [e1,e2] at h3
 exact h3
def frE (x : Int × Int) : List Value:=[.int .i64 x.1,.int .i64 x.2]
theorem frE_len : ∀ x,(frE x).length = 2:=fun _=>rfl
abbrev fRp (p : Int × Int) : FV:=fRef p.1 p.2
def rowR (l : List (Int × Int)) : List AV:=l.flatMap fun p=>[.f (intF p.1),.f (intF p.2)]
theorem rowR_map (l : List (Int × Int)) : rowR l = (l.flatMap frE).map fun v=>AV.f (.sc v):=by
 induction l with
 | nil=>rfl
 | cons p l ih=>rw [List.flatMap_cons,List.map_append,← ih]; rfl
theorem rowR_len (l : List (Int × Int)) : (rowR l).length = l.length * 2:=by rw [rowR_map,List.length_map,flat_len frE_len]
def sortRM (l : List (Int × Int)) : List (Int × Int):=(Sort.pdq (ltOf cmpF) l.toArray 0 l.length (Lib.bitLen l.length) true true).toList
theorem sortRM_len (l : List (Int × Int)) : (sortRM l).length = l.length:=by
 have h:=Sort.pdq_sorts (ltOf cmpF) swoF l.toArray 0 l.length (Lib.bitLen l.length) true true (Nat.zero_le _) (by simp) (.inl rfl)
 have:=h.1.1
 simpa [sortRM] using this
theorem rowR_holds {B : Base} {L : Lk} {h : List (List AV)} {k : List (Nat × Nat)} {w : World} {b g : Nat} {l : List (Int × Int)} (H : Mem B L h k w) (hm : L.m[b]? = some g) (hb : ix h b = some (rowR l)) : Sort.Holds id w g 0 (l.flatMap frE).toArray:=fun j hj=>by
 have hj : j < (l.flatMap frE).length:=by simpa using hj
 obtain ⟨_,q2,v,q3,q4,_⟩:=H.heap b g j _ (.f (.sc (l.flatMap frE)[j])) hm hb (by rw [rowR_map]; simp [hj])
 rw [Nat.zero_add]
 refine ⟨?_,q2⟩
 rw [q3]
 cases q4 with | f x v hx=>cases hx; simp only [id]; rw [getElem!_pos _ _ (by simpa using hj)]; simp
theorem two_vals {w : World} {L : Lk} {k : List (Nat × Nat)} {x y : AV} {vals : Array Value} (h : RepL w L k [x,y] vals) : ∃ u v,vals = #[u,v]∧RepA w L k x u∧RepA w L k y v:=by
 obtain ⟨h1,h2⟩:=h
 obtain ⟨u,hu,hr⟩:=h2 0 x rfl
 obtain ⟨v,hv,hr2⟩:=h2 1 y rfl
 refine ⟨u,v,?_,hr,hr2⟩
 have h1 : vals.size = 2:=h1
 apply Array.ext
 ·simp [h1]
 ·intro i g1 g2
  have : i = 0 ∨ i = 1:=by omega
  rcases this with rfl | rfl
  ·rw [Array.getElem?_eq_getElem g1] at hu; simpa using hu
  ·rw [Array.getElem?_eq_getElem g1] at hv; simpa using hv
theorem fn_val {w : World} {L : Lk} {k : List (Nat × Nat)} {v : Value} {f : FuncId} (h : RepA w L k (.f (.fn f [])) v) : v = .func (.func f) #[] #[]:=by
 cases h with
 | f x v hx=>cases hx with
  | fn f cs a vs ha hv hr =>
   have : a = #[]:=Array.eq_empty_of_size_eq_zero ha
   rw [this]
theorem sortR_x {cl : FuncId} (eg : ∀ args w,(callFunc cl args).run Tryz.prog w = .ok (.enter cl args) w) (hcl : ∀ (x y : Int × Int) (w : World),Calls Tryz.prog cl #[.agg #[.int .i64 x.1,.int .i64 x.2],.agg #[.int .i64 y.1,.int .i64 y.2]] w fun e w'=>e = .returned (.int .i64 (cmpF x y))∧Grew w w')
  {h : List (List AV)} {k : List (Nat × Nat)} {x : AV} {l : List (Int × Int)} (hr : RowB h x l.length (rowR l) 2) (hl : l.length < 2^62) :
  GivesX Tryz.prog 215 [x,.f (.fn cl [])] h k (fun y h' k'=>y = .tup []∧h' = rPut h x (rowR (sortRM l))∧k' = k):=by
 refine ⟨⟨_,Tryz.func215,rfl,by decide⟩,fun B L w vals H hv=>?_⟩
 obtain ⟨v,v2,rfl,hx,hx2⟩:=two_vals hv
 obtain rfl:=fn_val hx2
 have htup : ∀ {w' : World} {L' : Lk} {k' : List (Nat × Nat)},RepA w' L' k' (.tup []) (.tuple #[]):=.tup [] #[] (fun _=>undef) rfl (fun j y h=>by simp at h) (fun j y h=>by simp at h)
 rcases hr with ⟨h0,rfl⟩ | ⟨b,cap,rfl,hb,hcap⟩
 ·obtain ⟨c,rfl⟩:=nil_val hx
  have hcon:=AnyF.slices_SortFunc_none sortFR none c (.func (.func cl) #[] #[]) w
  change Calls Tryz.prog 215 _ _ _ at hcon
  refine hcon.mono ?_
  rintro e w' ⟨rfl,rfl⟩
  exact ⟨_,_,_,_,L,⟨rfl,rfl,rfl⟩,rfl,H,Ext.refl _ _ _,htup,Nat.le_refl _⟩
 ·obtain ⟨g,hm,rfl⟩:=ms_val hx
  have hh:=rowR_holds H hm hb
  have hg:=(H.mge b g hm).2
  have hcmp : CmpLays Tryz.prog cl #[] frE 2 cmpF g 0 l.toArray.size w:=fun m os dk _ x y=>hcl x y (sortWorldK frE 2 w g 0 m dk os)
  have hH : Sort.HoldsK frE 2 w g 0 l.toArray:=by
   unfold Sort.HoldsK
   rw [flat_flatK frE 2 frE_len]
   exact hh
  have hcon:=AnyQ.slices_SortFunc_eq sortFR 2 Tryz.isAgg71 Tryz.sizeOf71 frE frE_len (fun x v hv=>by simp [frE] at hv; rcases hv with rfl | rfl <;> rfl) cmpF swoF cl #[] g 0 cap l.toArray w eg hcmp hH hg (by simp; omega)
  change Calls Tryz.prog 215 _ _ _ at hcon
  have e0 : l.toArray.size = l.length:=by simp
  rw [e0] at hcon
  refine hcon.mono ?_
  rintro e w' ⟨rfl,n,os,rfl⟩
  have hps : (Sort.pdq (ltOf cmpF) l.toArray 0 l.length (Lib.bitLen l.length) true true) = (sortRM l).toArray:=by simp [sortRM]
  unfold sortWorldK Sort.putRowK
  rw [hps,flat_flatK frE 2 frE_len]
  have T:=turned_put id (q:=n) (os:=os) (d:=((sortRM l).flatMap frE).toArray) hh (by simp only [List.size_toArray,flat_len frE_len,sortRM_len]) hg
  rw [List.map_id] at T
  obtain ⟨H',he⟩:=H.turn T hm hb (by rw [rowR_len]; simp only [List.toList_toArray,flat_len frE_len,sortRM_len]) (fun v hv=>by
   obtain ⟨x,_,hx⟩:=List.mem_flatMap.1 (show v ∈ (sortRM l).flatMap frE by simpa using hv)
   rcases List.mem_cons.1 hx with rfl | hx
   ·rfl
   ·obtain rfl:=List.mem_singleton.1 hx; rfl)
  exact ⟨_,_,_,_,L,⟨rfl,by rw [rowR_map]; rfl,rfl⟩,rfl,H',he,htup,Nat.le_refl _⟩
theorem sortedC_enters : ∀ args w,(callFunc 253 args).run Tryz.prog w = .ok (.enter 253 args) w:=enters_of Tryz.func253 (by kernel_rfl) rfl
theorem fieldsC_enters : ∀ args w,(callFunc 216 args).run Tryz.prog w = .ok (.enter 216 args) w:=enters_of Tryz.func216 (by kernel_rfl) rfl
set_option maxHeartbeats 4000000
theorem uFr : runPure Tryz.prog (underlying 71) = some (.struct #[⟨ "Header", 3, 0, false, "", "", 0⟩, ⟨ "Field", 3, 1, false, "", "", 8⟩]) := by kernel_rfl
@[simp] theorem eqlFr {T : TV} {x y : Operand} {a a' b b' : Int} : opBin Tryz.prog T .eql 71 x y (.agg [.f (intF a),.f (intF b)]) (.agg [.f (intF a'),.f (intF b')]) = some (.f (.sc (.bool (decide (a = a') && decide (b = b'))))) :=
 (opBin_eq (by kernel_rfl) rfl rfl (pureEq2 9999 uFr (by kernel_rfl) (by decide) (by decide) (by kernel_rfl) (by kernel_rfl) (by kernel_rfl) (by kernel_rfl) (pureEqInt (k':=.i64) 9998 (by kernel_rfl)) (pureEqInt (k':=.i64) 9998 (by kernel_rfl)))).1
@[simp] theorem neqFr {T : TV} {x y : Operand} {a a' b b' : Int} : opBin Tryz.prog T .neq 71 x y (.agg [.f (intF a),.f (intF b)]) (.agg [.f (intF a'),.f (intF b')]) = some (.f (.sc (.bool (!(decide (a = a') && decide (b = b')))))) :=
 (opBin_eq (by kernel_rfl) rfl rfl (pureEq2 9999 uFr (by kernel_rfl) (by decide) (by decide) (by kernel_rfl) (by kernel_rfl) (by kernel_rfl) (by kernel_rfl) (pureEqInt (k':=.i64) 9998 (by kernel_rfl)) (pureEqInt (k':=.i64) 9998 (by kernel_rfl)))).2
abbrev FR:=Int × Int
def keepR (l : List FR) (m : Nat) : Bool:=decide (m = 0 ∨ l[m]? ≠ l[m - 1]?)
def compTo (l : List FR) : Nat→List FR
 | 0=>[]
 | m + 1=>compTo l m ++ (if keepR l m = true then l[m]?.toList else [])
def compFM (l : List FR) : List FR:=compTo l l.length
theorem compTo_len (l : List FR) (m : Nat) : (compTo l m).length ≤ m:=by
 induction m with
 | zero=>exact Nat.le_refl _
 | succ m ih =>
  rw [compTo,List.length_append]
  have : (if keepR l m = true then l[m]?.toList else []).length ≤ 1:=by
   split
   ·cases l[m]? <;> simp
   ·simp
  omega
theorem compTo_all {l : List FR} : ∀ {m : Nat},m ≤ l.length→(∀ j,j < m→keepR l j = true)→compTo l m = l.take m
 | 0,_,_=>by simp [compTo]
 | m + 1,hm,h=>by
  rw [compTo,compTo_all (by omega) fun j hj=>h j (by omega),if_pos (h m (by omega)),List.take_add_one]
theorem compFM_len (l : List FR) : (compFM l).length ≤ l.length:=compTo_len _ _
def padR (l : List FR) : List FR:=compFM l ++ List.replicate (l.length - (compFM l).length) (0,0)
theorem padR_len (l : List FR) : (padR l).length = l.length:=by have:=compFM_len l; simp [padR]; omega
theorem retR_av {T : TV} {rs : List ResultVar} {h0 hh : List (List AV)} {k0 : List (Nat × Nat)} {R : AV→List (List AV)→List (Nat × Nat)→Prop} {t : List AV} {x : AV} (hres : resultA T rs ⟨t,hh,k0⟩ = some x) (hl : hh.length = h0.length) (hb : BelC h0 hh k0.length) (hx : Bel h0.length k0.length x) (hR : R x hh k0) : RetR T rs h0 k0 R .ret ⟨t,hh,k0⟩:=by
 refine ⟨.inr rfl,?_⟩
 rw [hres]
 exact ⟨hh,[],k0,[],x,(List.append_nil _).symm,hl,(List.append_nil _).symm,Nat.le_refl _,hb,.inl ⟨rfl,hx⟩,hR⟩
theorem rowR_at {l : List FR} : ∀ {j : Nat} {p : FR},l[j]? = some p→((rowR l).drop (j * 2)).take 2 = [.f (intF p.1),.f (intF p.2)]:=by
 induction l with
 | nil=>intro j p h; cases h
 | cons q l ih =>
  intro j p h
  cases j with
  | zero => obtain rfl : q = p := by simpa using h
            rfl
  | succ j =>
   rw [show (j + 1) * 2 = j * 2 + 2 by omega]
   exact ih (by simpa using h)
theorem rowR_over {l : List FR} : ∀ {j : Nat} {p : FR},j < l.length→over (rowR l) (j * 2) [.f (intF p.1),.f (intF p.2)] = rowR (l.set j p):=by
 induction l with
 | nil=>intro j p h; simp at h
 | cons q l ih =>
  intro j p h
  cases j with
  | zero=>rfl
  | succ j =>
   have:=ih (j:=j) (p:=p) (by simpa using h)
   rw [show (j + 1) * 2 = j * 2 + 2 by omega]
   exact congrArg (fun t=>AV.f (intF q.1) :: AV.f (intF q.2) :: t) this
structure CpIn (l : List FR) (m k : Nat) (dk : List FR) : Prop where
 size : dk.length = l.length
 lt : k < m
 le : m ≤ l.length
 high : ∀ j,k ≤ j→dk[j]? = l[j]?
 low : dk.take k = compTo l m
theorem CpIn.len {l dk : List FR} {m k : Nat} (h : CpIn l m k dk) : (compTo l m).length = k:=by
 rw [← h.low,List.length_take]; have:=h.size; have:=h.lt; have:=h.le; omega
theorem CpIn.keep {l dk : List FR} {m k : Nat} (h : CpIn l m k dk) {x y : FR} (hx : l[m]? = some x) (hy : l[m - 1]? = some y) (hne : x ≠ y) : CpIn l (m + 1) (k + 1) (dk.set k x):=by
 have hm:=(List.getElem?_eq_some_iff.1 hx).1
 have h1:=h.size; have h2:=h.lt
 refine ⟨by simp [h1],by omega,hm,fun j hj=>by rw [List.getElem?_set_ne (by omega)]; exact h.high j (by omega),?_⟩
 have hk : keepR l m = true:=decide_eq_true (.inr (by rw [hx,hy]; simpa using hne))
 have htk : (dk.set k x).take k = dk.take k:=by
  apply List.ext_getElem?
  intro j
  simp only [List.getElem?_take]
  by_cases hj : j < k
  ·rw [if_pos hj,if_pos hj,List.getElem?_set_ne (by omega)]
  ·rw [if_neg hj,if_neg hj]
 rw [compTo,if_pos hk,← h.low,List.take_add_one,List.getElem?_set_self (by omega),htk,hx]
theorem CpIn.skip {l dk : List FR} {m k : Nat} (h : CpIn l m k dk) {x : FR} (hx : l[m]? = some x) (hy : l[m - 1]? = some x) : CpIn l (m + 1) k dk:=by
 have hm:=(List.getElem?_eq_some_iff.1 hx).1
 have h2:=h.lt
 refine ⟨h.size,by omega,hm,h.high,?_⟩
 have hk : keepR l m = false := decide_eq_false (by rw [hx, hy]; intro e; rcases e with e | e
                                                    ·omega
                                                    ·exact e rfl)
 rw [compTo,if_neg (by rw [hk]; decide),List.append_nil]
 exact h.low
theorem CpIn.start {l : List FR} {i : Nat} {x : FR} (hall : ∀ j,j < i + 1→keepR l j = true) (hx : l[i + 1]? = some x) (hy : l[i]? = some x) : CpIn l (i + 2) (i + 1) l:=by
 have hm:=(List.getElem?_eq_some_iff.1 hx).1
 refine ⟨rfl,by omega,hm,fun _ _=>rfl,?_⟩
 have hk : keepR l (i + 1) = false := decide_eq_false (by rw [hx, Nat.add_sub_cancel, hy]; intro e; rcases e with e | e
                                                          ·omega
                                                          ·exact e rfl)
 rw [compTo,if_neg (by rw [hk]; decide),List.append_nil,compTo_all (by omega) hall]
theorem CpIn.fin {l dk : List FR} {k : Nat} (h : CpIn l l.length k dk) : (compFM l).length = k∧over (rowR dk) (k * 2) (zeroRow [.f (intF 0),.f (intF 0)] (l.length - k)) = rowR (padR l):=by
 have hk:=h.len
 have h1:=h.size; have h2:=h.lt
 refine ⟨hk,?_⟩
 have hz : ∀ (n : Nat) (d : List FR) (j : Nat),d.length = j + n→over (rowR d) (j * 2) (zeroRow [.f (intF 0),.f (intF 0)] n) = rowR (d.take j ++ List.replicate n (0,0)):=fun n=>by
  induction n with
  | zero=>intro d j hd; rw [List.replicate_zero,List.append_nil,List.take_of_length_le (by omega)]; rfl
  | succ n ih =>
   intro d j hd
   have e1 : over (rowR d) (j * 2) (zeroRow [.f (intF 0),.f (intF 0)] (n + 1)) = over (rowR (d.set j (0,0))) ((j + 1) * 2) (zeroRow [.f (intF 0),.f (intF 0)] n):=by
    rw [← rowR_over (p:=(0,0)) (by omega),show (j + 1) * 2 = j * 2 + 2 by omega]
    rfl
   rw [e1,ih (d.set j (0,0)) (j + 1) (by simp; omega)]
   congr 1
   rw [List.take_add_one,List.getElem?_set_self (by omega),List.replicate_succ,show (some ((0,0) : FR)).toList = [(0,0)] from rfl,List.append_assoc,List.singleton_append]
   congr 1
   apply List.ext_getElem?
   intro q
   simp only [List.getElem?_take]
   by_cases hq : q < j
   ·rw [if_pos hq,if_pos hq,List.getElem?_set_ne (by omega)]
   ·rw [if_neg hq,if_neg hq]
 rw [hz (l.length - k) dk k (by omega),h.low]
 unfold padR
 rw [show compTo l l.length = compFM l from rfl,show (compFM l).length = k from hk]
theorem rowR_bel {n m : Nat} (l : List FR) : ∀ z ∈ rowR l,Bel n m z:=fun z hz=>by
 rw [rowR_map] at hz
 obtain ⟨v,_,rfl⟩:=List.mem_map.1 hz
 exact .f _
def cpI (b cap : Nat) (l : List FR) (h : List (List AV)) (k : List (Nat × Nat)) (i : Nat) (s : St) : Prop:=(∀ j,j < i + 1→keepR l j = true)∧Vf.Sl [(0,.ms b 0 l.length cap 2),(3,.f (intF ((i : Int) + 1)))] 61 h k s
def cpJ (b cap i : Nat) (l : List FR) (h : List (List AV)) (k : List (Nat × Nat)) (j : Nat) (s : St) : Prop:=∃ q dk,CpIn l (i + 2 + j) q dk∧Vf.Sl [(0,.ms b 0 l.length cap 2),(3,.f (intF q)),(4,.ms b ((i + 1) * 2) (l.length - (i + 1)) (cap - (i + 1)) 2),(5,.f (intF ((j : Int) + 1)))] 61 (h.set b (rowR dk)) k s
theorem clear_ms {T : TV} {t e : TypeId} {s0 b0 : Nat} {z : List AV} {ety : Ty} (ht : T t = some ⟨s0,b0,.slice e,z⟩) (he : T e = some ety) {h : List (List AV)} {cs : List AV} {b off len cap : Nat} (hb : ix h b = some cs) (hz : ety.size ≠ 0) (hl : off + len * ety.size ≤ cs.length) (h1 : ety.z.all AV.one = true) (h0 : len ≠ 0) :
  opClear T h t (.ms b off len cap ety.size) = some (h.set b (over cs off (zeroRow ety.z len))):=by
 simp only [opClear,ht,he,hb]
 rw [if_pos ⟨trivial,hz,hl,h1,h0⟩]
theorem slice_lo {T : TV} {t e : TypeId} {s0 b0 : Nat} {z : List AV} {ety : Ty} (ht : T t = some ⟨s0,b0,.slice e,z⟩) (he : T e = some ety) {b off len cap a : Nat} {x : Int} (hx : x = a) (h1 : a ≤ len) (h2 : len ≤ cap) (h3 : a < cap ∨ a = 0) :
  opSlice T t (.ms b off len cap ety.size) (some (.f (intF x))) none none = some (.ms b (off + a * ety.size) (len - a) (cap - a) ety.size):=by
 subst hx
 simp [opSlice,ht,he,optIdx,idx,h1,h2,h3]
theorem slice_hi {T : TV} {t e : TypeId} {s0 b0 : Nat} {z : List AV} {ety : Ty} (ht : T t = some ⟨s0,b0,.slice e,z⟩) (he : T e = some ety) {b off len cap a : Nat} {x : Int} (hx : x = a) (h1 : a ≤ len) (h2 : len ≤ cap) :
  opSlice T t (.ms b off len cap ety.size) none (some (.f (intF x))) none = some (.ms b off a cap ety.size):=by
 subst hx
 simp [opSlice,ht,he,optIdx,idx,h1,h2]
theorem compR_x {h : List (List AV)} {k : List (Nat × Nat)} {x : AV} {l : List FR} (hr : RowB h x l.length (rowR l) 2) (hl : l.length < 2^62) :
  GivesX Tryz.prog 219 [x] h k (fun y h' k'=>y = rCut x (compFM l).length∧h' = rPut h x (rowR (padR l))∧k' = k):=by
 refine GivesX.of_W Tryz.func219 rfl rfl rfl (by decide) ?_
 rcases hr with ⟨h0,rfl⟩ | ⟨b,cap,rfl,hb,hcap⟩
 ·obtain rfl : l = []:=List.eq_nil_of_length_eq_zero h0
  refine W.x mixed (by kernel_rfl) ?_
  simp
  exact retR_av rfl rfl .refl (.f _) ⟨rfl,rfl,rfl⟩
 have hbl : b < h.length:=(List.getElem?_eq_some_iff.1 hb).1
 have hset0 : h.set b (rowR l) = h:=by
  apply List.ext_getElem?
  intro q
  by_cases e : b = q
  ·subst e; rw [List.getElem?_set_self hbl]; exact hb.symm
  ·rw [List.getElem?_set_ne e]
 have hset : ∀ c,ix (h.set b c) b = some c:=fun c=>List.getElem?_set_self hbl
 have hall : (∀ j,j < l.length→keepR l j = true)→compFM l = l∧padR l = l:=fun hk=>by
  have e : compFM l = l:=by unfold compFM; rw [compTo_all (Nat.le_refl _) hk,List.take_length]
  refine ⟨e,?_⟩
  unfold padR
  rw [e,Nat.sub_self,List.replicate_zero,List.append_nil]
 have hfin : ∀ t : List AV,(∀ j,j < l.length→keepR l j = true)→(ix t 2).getD undefA = .ms b 0 l.length cap 2→RetR (tyOf Tryz.prog) [.tmp 2] h k (fun y h' k'=>y = rCut (.ms b 0 l.length cap 2) (compFM l).length∧h' = rPut h (.ms b 0 l.length cap 2) (rowR (padR l))∧k' = k) .ret ⟨t,h,k⟩:=fun t hk ht=>by
  obtain ⟨e1,e2⟩:=hall hk
  refine retR_av (x:=.ms b 0 l.length cap 2) (by simp [resultA,mapO,ht]) rfl .refl (.ms _ _ _ _ _ hbl) ⟨by rw [e1]; rfl,by rw [e2]; exact hset0.symm,rfl⟩
 refine W.two (W.x mixed (by kernel_rfl) ?_)
 simp
 by_cases h2 : (l.length : Int) < 2
 ·refine W.two (W.x mixed (by kernel_rfl) ?_)
  simp [h2]
  exact hfin _ (fun j hj=>decide_eq_true (.inl (by omega))) rfl
 refine W.two (W.x mixed (by kernel_rfl) ?_)
 simp [h2]
 refine W.two (W.two (W.x mixed (by kernel_rfl) ?_))
 simp
 refine W.blk (forW (l.length - 1) (cpI b cap l h k) ⟨fun j hj=>by simp [keepR]; omega,Sl.of rfl rfl rfl⟩ ?_)
 rintro i ⟨ts,hh,kk⟩ hi ⟨hkeep,rfl,rfl,f,rfl⟩
 by_cases hlt : i < l.length - 1
 case neg =>
  have hlt' : ¬ (i : Int) + 1 < l.length:=by omega
  refine W.x mixed (by kernel_rfl) ?_
  simp [hlt']
  refine W.x mixed (by kernel_rfl) ?_
  simp
  exact hfin _ (fun j hj=>hkeep j (by omega)) rfl
 have hlt' : (i : Int) + 1 < l.length:=by omega
 have hge : (0 : Int) ≤ (i : Int) + 1:=by omega
 have hi1 : i + 1 < l.length:=by omega
 have hi0 : i < l.length:=by omega
 obtain ⟨p,hp,hp'⟩:=nth_of (show i < l.length by omega)
 obtain ⟨q,hq,hq'⟩:=nth_of (show i + 1 < l.length by omega)
 have hw:=wrap64 (x:=(i : Int)) (by omega) (by omega)
 have hw2:=wrap64 (x:=(i : Int) + 1 + 1) (by omega) (by omega)
 have a1:=rowR_at hp'
 have a2:=rowR_at hq'
 have l1 : 2 ≤ (rowR l).length - i * 2:=by rw [rowR_len]; omega
 have l2 : 2 ≤ (rowR l).length - (i + 1) * 2:=by rw [rowR_len]; omega
 refine W.two (W.x mixed (by kernel_rfl) ?_)
 simp [hlt']
 refine W.two (W.blk (W.two (W.x mixed (by kernel_rfl) ?_)))
 simp [hlt',hge,hw,hb,hi1,hi0,a1,a2,l1,l2]
 by_cases he : q = p
 case neg =>
  have hb2 : (decide (q.1 = p.1) && decide (q.2 = p.2)) = false:=by
   rw [Bool.and_eq_false_iff]
   by_cases e1 : q.1 = p.1
   ·exact .inr (decide_eq_false fun e2=>he (Prod.ext e1 e2))
   ·exact .inl (decide_eq_false e1)
  refine W.cond (q:=false) (by simp [hb2]) (W.skip ?_)
  simp
  refine W.x mixed (by kernel_rfl) ?_
  simp [hw2]
  refine ⟨by omega,fun j hj=>?_,Sl.of rfl rfl rfl⟩
  by_cases e : j < i + 1
  ·exact hkeep j e
  ·obtain rfl : j = i + 1:=by omega
   exact decide_eq_true (.inr (by rw [hq',Nat.add_sub_cancel,hp']; simpa using he))
 subst he
 have hcs : i + 1 < cap:=by omega
 refine W.cond (q:=true) (by simp) ?_
 simp only [if_true]
 refine W.two (W.x mixed (by kernel_rfl) ?_)
 simp
 rw [slice_lo ty187 ty71 (a:=i + 1) (by omega) (by omega) hcap (.inl hcs)]
 simp
 refine W.two (W.two (W.x mixed (by kernel_rfl) ?_))
 simp
 refine W.blk (forW (l.length - (i + 2)) (cpJ b cap i l hh kk) ⟨i + 1,l,CpIn.start hkeep hq' hp',by rw [hset0]; exact Sl.of rfl rfl rfl⟩ ?_)
 rintro j ⟨ts,h2,k2⟩ hj ⟨n,dk,hc,rfl,rfl,ff,rfl⟩
 have hn:=hc.lt
 have hm:=hc.le
 have hds:=hc.size
 by_cases hjl : j < l.length - (i + 2)
 case neg =>
  have hj' : ¬ ((j : Int) + 1 < ((l.length - (i + 1) : Nat) : Int)):=by omega
  refine W.x mixed (by kernel_rfl) ?_
  simp [hj']
  have hjm : i + 2 + j = l.length:=by omega
  rw [hjm] at hc hn
  obtain ⟨e1,e2⟩:=hc.fin
  refine W.two (W.regClear (L1:=[_,_,_]) rfl rfl rfl ?_)
  simp
  rw [slice_lo ty187 ty71 (a:=n) rfl (by omega) hcap (by omega)]
  simp
  refine ⟨_,clear_ms ty187 ty71 (hset _) (by simp) (by rw [rowR_len]; simp; omega) (by simp) (by omega),?_⟩
  simp only [St.put,List.set_set]
  rw [show over (rowR dk) (n * 2) (zeroRow _ (l.length - n)) = rowR (padR l) from e2]
  refine W.x mixed (by kernel_rfl) ?_
  simp
  rw [slice_hi ty187 ty71 (a:=n) rfl (by omega) hcap]
  simp
  exact retR_av (x:=.ms b 0 n cap 2) (by simp [resultA,mapO]) (by simp) (.set (rowR_bel _)) (.ms _ _ _ _ _ hbl) ⟨by rw [e1]; rfl,rfl,rfl⟩
 have hj' : ((j : Int) + 1 < ((l.length - (i + 1) : Nat) : Int)):=by omega
 have hgj : (0 : Int) ≤ (j : Int) + 1:=by omega
 have hj1 : j + 1 < l.length - (i + 1):=by omega
 have hj0 : j < l.length - (i + 1):=by omega
 obtain ⟨u,hu,hu'⟩:=nth_of (show i + 2 + j < l.length by omega)
 obtain ⟨v,hv,hv'⟩:=nth_of (show i + 1 + j < l.length by omega)
 have du : dk[i + 2 + j]? = some u:=by rw [hc.high _ (by omega)]; exact hu'
 have dv : dk[i + 1 + j]? = some v:=by rw [hc.high _ (by omega)]; exact hv'
 have b1 : ((rowR dk).drop ((i + 1) * 2 + (j + 1) * 2)).take 2 = [.f (intF u.1),.f (intF u.2)]:=by rw [show (i + 1) * 2 + (j + 1) * 2 = (i + 2 + j) * 2 by omega]; exact rowR_at du
 have b2 : ((rowR dk).drop ((i + 1) * 2 + j * 2)).take 2 = [.f (intF v.1),.f (intF v.2)]:=by rw [show (i + 1) * 2 + j * 2 = (i + 1 + j) * 2 by omega]; exact rowR_at dv
 have l3 : 2 ≤ (rowR dk).length - ((i + 1) * 2 + (j + 1) * 2):=by rw [rowR_len]; omega
 have l4 : 2 ≤ (rowR dk).length - ((i + 1) * 2 + j * 2):=by rw [rowR_len]; omega
 have hwj:=wrap64 (x:=(j : Int)) (by omega) (by omega)
 have hwj2:=wrap64 (x:=(j : Int) + 1 + 1) (by omega) (by omega)
 refine W.two (W.x mixed (by kernel_rfl) ?_)
 simp [hj']
 refine W.two (W.blk (W.two (W.x mixed (by kernel_rfl) ?_)))
 have hsetb : ∀ c,ix (hh.set b c) b = some c:=fun c=>hset c
 simp [hj',hgj,hwj,hsetb,hj1,hj0,b1,b2,l3,l4]
 by_cases huv : u = v
 ·subst huv
  refine W.cond (q:=false) (by simp) (W.skip ?_)
  simp
  refine W.x mixed (by kernel_rfl) ?_
  simp [hwj2]
  exact ⟨by omega,n,dk,hc.skip hu' (by rw [show i + 2 + j - 1 = i + 1 + j by omega]; exact hv'),Sl.of rfl rfl rfl⟩
 have hb3 : (!decide (u.1 = v.1) || !decide (u.2 = v.2)) = true:=by
  by_cases e1 : u.1 = v.1
  ·have e2 : ¬ u.2 = v.2:=fun e2=>huv (Prod.ext e1 e2)
   simp [e2]
  ·simp [e1]
 have hnl : n < l.length:=by omega
 have hwn:=wrap64 (x:=(n : Int) + 1) (by omega) (by omega)
 have l5 : n * 2 + 2 ≤ (rowR dk).length:=by rw [rowR_len]; omega
 refine W.cond (q:=true) (by simp [hb3]) ?_
 simp only [if_true]
 refine W.two (W.x mixed (by kernel_rfl) ?_)
 simp [hgj,hsetb,hj1,b1,l3,hnl,l5,rowR_over (l:=dk) (j:=n) (p:=u) (by omega)]
 refine W.x mixed (by kernel_rfl) ?_
 simp [hwn]
 refine W.x mixed (by kernel_rfl) ?_
 simp [hwj2]
 exact ⟨by omega,n + 1,dk.set n u,hc.keep hu' (by rw [show i + 2 + j - 1 = i + 1 + j by omega]; exact hv') huv,Sl.of rfl rfl rfl⟩
def canR (l : List FR) : List FR:=compFM (sortRM l)
theorem canR_nil : canR [] = []:=by
 refine List.eq_nil_of_length_eq_zero ?_
 have h1:=compFM_len (sortRM [])
 rw [sortRM_len] at h1
 exact Nat.le_zero.1 h1
theorem canR_len (l : List FR) : (canR l).length ≤ l.length:=by
 have:=compFM_len (sortRM l)
 rw [sortRM_len] at this
 exact this
theorem compTo_ne {l : List FR} : ∀ {m : Nat},0 < m→m ≤ l.length→compTo l m ≠ []
 | 0,h,_=>absurd h (Nat.lt_irrefl 0)
 | 1,_,hm=>by
  obtain ⟨x,hx,hx'⟩:=nth_of (show 0 < l.length by omega)
  simp [compTo,keepR,hx']
 | m + 2,_,hm=>by
  rw [compTo]
  intro e
  exact compTo_ne (m:=m + 1) (by omega) (by omega) (List.append_eq_nil_iff.1 e).1
theorem canR_ne {l : List FR} (h : l ≠ []) : canR l ≠ []:=by
 have h1 : 0 < l.length:=List.length_pos_iff.2 h
 have h2:=sortRM_len l
 exact compTo_ne (by omega) (Nat.le_refl _)
def fldsTo (l : List ExD) : List FR:=(l.filter fun x=>x.op == 2).map fun x=>(x.n,x.w)
def fldsM (l : List ExD) : List FR:=canR (fldsTo l)
theorem fldsTo_next {l : List ExD} {i : Nat} {x : ExD} (hx : l[i]? = some x) : fldsTo (l.take (i + 1)) = if x.op = 2 then fldsTo (l.take i) ++ [(x.n,x.w)] else fldsTo (l.take i):=by
 unfold fldsTo
 rw [List.take_add_one,hx,List.filter_append,List.map_append]
 by_cases h : x.op = 2 <;> simp [h]
theorem fldsTo_len (l : List ExD) (i : Nat) : (fldsTo (l.take i)).length ≤ l.length:=by
 unfold fldsTo
 rw [List.length_map]
 exact Nat.le_trans (List.length_filter_le _ _) (by simp; omega)
theorem fRp_scs (l : List FR) : Scs (encL fRp l):=fun x hx y hy=>by
 obtain ⟨z,_,rfl⟩:=List.mem_map.1 hx
 rcases List.mem_cons.1 (show y ∈ [intF z.1,intF z.2] from hy) with rfl | hy
 ·exact ⟨_,rfl⟩
 ·obtain rfl:=List.mem_singleton.1 hy; exact ⟨_,rfl⟩
theorem fRp_cells (l : List FR) : ((encL fRp l).flatMap FV.cells).map AV.f = rowR l:=by
 induction l with
 | nil=>rfl
 | cons x l ih=>show AV.f (intF x.1) :: AV.f (intF x.2) :: _ = AV.f (intF x.1) :: AV.f (intF x.2) :: _; congr 2
theorem rowR_one (l : List FR) : (rowR l).all AV.one = true:=by
 induction l with
 | nil=>rfl
 | cons x r ih=>show (AV.one _ && (AV.one _ && (rowR r).all AV.one)) = true; rw [ih]; rfl
theorem rowR_fz (H : List (List AV)) (l : List FR) : mapO (fzH 0 H 0) (rowR l) = some (l.flatMap fun p=>[intF p.1,intF p.2]):=by
 induction l with
 | nil=>rfl
 | cons x r ih=>show mapO (fzH 0 H 0) (.f (intF x.1) :: .f (intF x.2) :: rowR r) = _; rw [mapO,mapO,ih]; rfl
theorem frs_one (l : List FR) : (l.flatMap fun p=>[intF p.1,intF p.2]).all (fun y=>(AV.f y).one) = true:=by
 induction l with
 | nil=>rfl
 | cons x r ih=>show (AV.one _ && (AV.one _ && (r.flatMap fun p=>[intF p.1,intF p.2]).all (fun y=>(AV.f y).one))) = true; rw [ih]; rfl
theorem chunk_frs (l : List FR) : chunk true 2 l.length (l.flatMap fun p=>[intF p.1,intF p.2]) = encL fRp l:=by
 induction l with
 | nil=>rfl
 | cons x r ih =>
  show FV.agg [intF x.1,intF x.2] :: chunk true 2 r.length (r.flatMap fun p=>[intF p.1,intF p.2]) = _
  rw [ih]; rfl
theorem compFM_pre (l : List FR) : (rowR (padR l)).take ((compFM l).length * 2) = rowR (compFM l):=by
 unfold padR
 have e : rowR (compFM l ++ List.replicate (l.length - (compFM l).length) (0,0)) = rowR (compFM l) ++ rowR (List.replicate (l.length - (compFM l).length) (0,0)):=by simp [rowR]
 rw [e,List.take_append_of_le_length (by rw [rowR_len]; omega),List.take_of_length_le (by rw [rowR_len]; omega)]
theorem ret_cutR {H : List (List AV)} {b : Nat} {l : List FR} {cap : Nat} {R : FV→Prop} (hb : ix H b = some (rowR (padR l))) (hcap : l.length ≤ cap) (h : R (sl (encL fRp (compFM l)))) : RetV H (.ms b 0 (compFM l).length cap 2) R:=by
 refine ⟨1,_,?_,h⟩
 show (match ix H b with
  | some cs=>if _ then _ else _
  | none=>none) = _
 have hc:=compFM_len l
 have ht : ((rowR (padR l)).drop 0).take ((compFM l).length * 2) = rowR (compFM l):=by rw [List.drop_zero]; exact compFM_pre l
 rw [hb]
 show (if _ then _ else _) = _
 rw [ht,if_pos ⟨by omega,by omega,by rw [rowR_len,padR_len]; omega,by omega,rowR_one _⟩,rowR_fz]
 simp only
 rw [if_pos (frs_one _)]
 show some (FV.sl (chunk true 2 (compFM l).length ((compFM l).flatMap fun p=>[intF p.1,intF p.2])) .un) = _
 rw [chunk_frs]
def flI (l : List ExD) (c : Cap) (i : Nat) (s : St) : Prop:=∃ g k x tk,OwnT k (encL fRp (fldsTo (l.take i))) 2 x tk∧Vf.Sl [(3,x),(6,.f (.sl (encL fEx l) c)),(7,.f (intF l.length)),(8,.f (intF i))] 28 g k s
theorem exFlds_g (l : List ExD) (c : Cap) (hl : l.length ≤ 1000000) : Gives Tryz.prog 160 [.sl (encL fEx l) c] (ownF (encL fRp (fldsM l))):=by
 refine Gives.of_Wd Tryz.func160 rfl rfl rfl (by decide) ?_
 refine Wd.two (W.x mixed (by kernel_rfl) ?_)
 simp
 refine Wd.two (W.x mixed (by kernel_rfl) ?_)
 simp
 refine Wd.two (W.two (W.x mixed (by kernel_rfl) ?_))
 simp
 refine W.blk (forW l.length (flI l c) ⟨_,_,_,0,.nil,Sl.of rfl rfl rfl⟩ ?_)
 rintro i ⟨ts,hh,kk⟩ hi ⟨g,k,x,tk,ho,rfl,rfl,f,rfl⟩
 by_cases hlt : i < l.length
 ·obtain ⟨y,hy,hy'⟩:=nth_of hlt
  have hw:=wrap64 (x:=(i : Int) + 1) (by omega) (by omega)
  have hn:=fldsTo_next hy'
  have hln:=fldsTo_len l i
  by_cases h4 : y.op = 2
  ·rw [if_pos h4] at hn
   refine W.x mixed (by kernel_rfl) ?_
   simp [hlt,hy,h4,-opAppend]
   obtain ⟨t',k',e,ho',_⟩:=append_own ty187 ty71 (by simp) ho (y:=.f (.sl [fRp (y.n,y.w)] .full)) rfl (by simp) (by simp) (by simp; omega) (by simp; omega)
   rw [encL_snoc,← hn] at e ho'
   rw [e]
   simp [hw]
   exact ⟨_,_,_,_,ho',Sl.of rfl rfl rfl⟩
  ·rw [if_neg h4] at hn
   refine W.x mixed (by kernel_rfl) ?_
   simp [hlt,hy,h4,hw]
   exact ⟨_,_,_,_,by rw [hn]; exact ho,Sl.of rfl rfl rfl⟩
 obtain rfl : i = l.length:=by omega
 refine W.x mixed (by kernel_rfl) ?_
 simp
 rw [List.take_length] at ho
 have hln:=fldsTo_len l l.length
 rw [List.take_length] at hln
 rcases ho with ⟨h0,rfl⟩ | ⟨h0,rfl,hk⟩
 ·have h0' : fldsTo l = []:=by simpa [encL] using h0
  have hm : fldsM l = []:=by unfold fldsM; rw [h0']; exact canR_nil
  refine Wd.x mixed (by kernel_rfl) ?_
  simp
  refine call_x (sortR_x fieldsC_enters fieldsC_any (l:=[]) (.inl ⟨rfl,rfl⟩) (by decide)) ?_
  rintro _ _ _ ⟨rfl,rfl,rfl⟩
  simp [rPut]
  refine call_x (compR_x (l:=[]) (.inl ⟨rfl,rfl⟩) (by decide)) ?_
  rintro _ _ _ ⟨rfl,rfl,rfl⟩
  simp [rPut,rCut,hm,ownF,encL]
 ·have hne : fldsTo l ≠ []:=fun e=>h0 (by rw [e]; rfl)
  refine Wd.thaw1 (d:=3) (t:=tk) (sz:=2) (l:=encL fRp (fldsTo l)) rfl hk (by decide) (fRp_scs _) ?_
  rintro cap ⟨ts,hh,kk⟩ hcap ⟨rfl,rfl,ff,rfl⟩
  rw [fRp_cells]
  rw [encL_length] at hcap ⊢
  refine Wd.x mixed (by kernel_rfl) ?_
  simp
  refine call_x (sortR_x fieldsC_enters fieldsC_any (l:=fldsTo l) (.inr ⟨0,cap,rfl,rfl,hcap⟩) (by omega)) ?_
  rintro _ _ _ ⟨rfl,rfl,rfl⟩
  simp [rPut]
  have hsl:=sortRM_len (fldsTo l)
  refine call_x (compR_x (l:=sortRM (fldsTo l)) (.inr ⟨0,cap,by rw [hsl],rfl,by omega⟩) (by omega)) ?_
  rintro _ _ _ ⟨rfl,rfl,rfl⟩
  simp [rPut,rCut]
  exact ret_cutR rfl (by rw [hsl]; exact hcap) (by unfold ownF fldsM; rw [if_neg (fun e=>canR_ne hne (by simpa [encL] using e))]; rfl)
def bx : AV→Option Nat
 | .ms b _ _ _ _=>some b
 | _=>none
def Apart (x y : AV) : Prop:=∀ b,bx x = some b→bx y ≠ some b
def flatA (l : List FV) : List AV:=(l.flatMap FV.cells).map AV.f
theorem Wd.thaw3 {c : Code} {s : St} {Q : Pst} {d b : Nat} {L0 L1 L2 : List FV} {z0 z1 z2 t0 t1 t2 : Nat} {x0 x1 x2 : AV} (hd : s.t[d]? = some (.ref b 0)) (hb : s.h[b]? = some [x0,x1,x2])
  (h0 : OwnT s.k L0 z0 x0 t0) (p0 : 0 < z0) (s0 : Scs L0) (h1 : OwnT s.k L1 z1 x1 t1) (p1 : 0 < z1) (s1 : Scs L1) (h2 : OwnT s.k L2 z2 x2 t2) (p2 : 0 < z2) (s2 : Scs L2)
  (n01 : L0 ≠ []→L1 ≠ []→t0 ≠ t1) (n02 : L0 ≠ []→L2 ≠ []→t0 ≠ t2) (n12 : L1 ≠ []→L2 ≠ []→t1 ≠ t2)
  (h : ∀ y0 y1 y2 R s',RowB ([y0,y1,y2] :: R) y0 L0.length (flatA L0) z0→RowB ([y0,y1,y2] :: R) y1 L1.length (flatA L1) z1→RowB ([y0,y1,y2] :: R) y2 L2.length (flatA L2) z2 →
   (L0 = []→y0 = .f (.sl [] .nil))→(L1 = []→y1 = .f (.sl [] .nil))→(L2 = []→y2 = .f (.sl [] .nil))→Apart y0 y1→Apart y0 y2→Apart y1 y2→bx y0 ≠ some 0→bx y1 ≠ some 0→bx y2 ≠ some 0→Vf.Sl [(d,.ref 0 0)] s.t.length ([y0,y1,y2] :: R) [] s'→Wd Tryz.prog c s' Q) : Wd Tryz.prog c s Q:=by
 obtain ⟨i0,a0,b0,c0⟩:=own_tc h0 p0 s0
 obtain ⟨i1,a1,b1,c1⟩:=own_tc h1 p1 s1
 obtain ⟨i2,a2,b2,c2⟩:=own_tc h2 p2 s2
 refine Wd.thawB (items:=[i0,i1,i2]) hd (by rw [hb,← a0,← a1,← a2]; rfl) (fun z hz=>by
  rcases List.mem_cons.1 hz with rfl | hz
  ·exact b0
  rcases List.mem_cons.1 hz with rfl | hz
  ·exact b1
  obtain rfl:=List.mem_singleton.1 hz; exact b2) ?_ fun cs s' hcap hs=>?_
 ·rcases c0 with ⟨e0,rfl⟩ | ⟨e0,rfl⟩ <;> rcases c1 with ⟨e1,rfl⟩ | ⟨e1,rfl⟩ <;> rcases c2 with ⟨e2,rfl⟩ | ⟨e2,rfl⟩ <;> simp [tcTok]
  ·exact n12 e1 e2
  ·exact n02 e0 e2
  ·exact n01 e0 e1
  ·exact ⟨⟨n01 e0 e1,n02 e0 e2⟩,n12 e1 e2⟩
 ·rcases c0 with ⟨e0,rfl⟩ | ⟨e0,rfl⟩ <;> rcases c1 with ⟨e1,rfl⟩ | ⟨e1,rfl⟩ <;> rcases c2 with ⟨e2,rfl⟩ | ⟨e2,rfl⟩ <;> rcases cs with _ | ⟨k0,_ | ⟨k1,_ | ⟨k2,cs⟩⟩⟩ <;> simp only [tcNew,tcBox,tcCap,and_true,and_false,false_and] at hcap hs
  all_goals refine h _ _ _ _ s' ?_ ?_ ?_ ?_ ?_ ?_ ?_ ?_ ?_ ?_ ?_ ?_ hs
  all_goals first
   | exact fun _=>rfl
   | exact fun h=>absurd h (by assumption)
   | exact .inl ⟨by simp [*],rfl⟩
   | exact .inr ⟨_,_,rfl,rfl,by simp [*]⟩
   | exact .inr ⟨_,_,rfl,rfl,by omega⟩
   | (intro b hb; simp [bx] at hb ⊢; try omega)
   | simp [bx]
theorem flatA_fr (l : List FR) : flatA (encL fRp l) = rowR l:=fRp_cells l
theorem flatA_z (l : List Int) : flatA (encL intF l) = rowA l:=intF_cells l
theorem RowB.put {h : List (List AV)} {x : AV} {n sz : Nat} {cs cs' : List AV} (hr : RowB h x n cs sz) : RowB (rPut h x cs') x n cs' sz:=by
 rcases hr with ⟨h0,rfl⟩ | ⟨b,cap,rfl,hb,hc⟩
 ·exact .inl ⟨h0,rfl⟩
 ·exact .inr ⟨b,cap,rfl,List.getElem?_set_self (List.getElem?_eq_some_iff.1 hb).1,hc⟩
theorem RowB.other {h : List (List AV)} {x y : AV} {n sz : Nat} {cs cs' : List AV} (hr : RowB h y n cs sz) (ha : Apart x y) : RowB (rPut h x cs') y n cs sz:=by
 rcases hr with ⟨h0,rfl⟩ | ⟨b,cap,rfl,hb,hc⟩
 ·exact .inl ⟨h0,rfl⟩
 ·refine .inr ⟨b,cap,rfl,?_,hc⟩
  unfold rPut
  split
  ·rename_i b' _ _ _ _
   exact (List.getElem?_set_ne (fun e=>ha b' rfl (by rw [e]; rfl))).trans hb
  ·exact hb
theorem put_zero {h : List (List AV)} {x : AV} {cs cs' : List AV} (h0 : ix h 0 = some cs) (hx : bx x ≠ some 0) : ix (rPut h x cs') 0 = some cs:=by
 unfold rPut
 split
 ·rename_i b _ _ _ _
  exact (List.getElem?_set_ne (fun e=>hx (by rw [e]; rfl))).trans h0
 ·exact h0
theorem Apart.symm {x y : AV} (h : Apart x y) : Apart y x:=fun b h1 h2=>h b h2 h1
theorem RowB.retR {h : List (List AV)} {x : AV} {l m : List FR} (hr : RowB h x l.length (rowR (padR l)) 2) (hm : compFM l = m) (hn : l = []→x = .f (.sl [] .nil)) (h0 : l ≠ []→m ≠ []) : RetV h (rCut x m.length) (· = ownF (encL fRp m)):=by
 by_cases e : l = []
 ·rw [hn e]
  subst e
  have : m = []:=by rw [← hm]; rfl
  subst this
  exact ⟨0,_,rfl,rfl⟩
 rcases hr with ⟨h1,rfl⟩ | ⟨b,cap,rfl,hb,hc⟩
 ·exact absurd (List.eq_nil_of_length_eq_zero h1) e
 ·subst hm
  exact ret_cutR hb hc (by unfold ownF; rw [if_neg (fun e'=>h0 e (by simpa [encL] using e'))])
theorem RowB.retZ {h : List (List AV)} {x : AV} {l m : List Int} (hr : RowB h x l.length (rowA (padZ l)) 1) (hm : compZM l = m) (hn : l = []→x = .f (.sl [] .nil)) (h0 : l ≠ []→m ≠ []) : RetV h (rCut x m.length) (· = ownF (encL intF m)):=by
 by_cases e : l = []
 ·rw [hn e]
  subst e
  have : m = []:=by rw [← hm]; exact List.eq_nil_of_length_eq_zero (Nat.le_zero.1 (compZM_len []))
  subst this
  exact ⟨0,_,rfl,rfl⟩
 rcases hr with ⟨h1,rfl⟩ | ⟨b,cap,rfl,hb,hc⟩
 ·exact absurd (List.eq_nil_of_length_eq_zero h1) e
 ·subst hm
  exact ret_cut hb hc (by unfold ownF; rw [if_neg (fun e'=>h0 e (by simpa [encL] using e'))])
theorem noGuard_of {ops : Array Oper} (h : ops.toList.all (fun o=>o.guard.isNone) = true) (i : Nat) (o : Oper) (ho : ops[i]? = some o) : o.guard = none:=by
 have:=List.all_eq_true.1 h o (List.mem_of_getElem? (i:=i) (by simpa using ho))
 simpa using this
theorem told_put {T : List (Nat × Nat × AV)} {t : List AV} {D : Nat→Bool} {i d : Nat} {v : AV} (hT : ∀ p ∈ T,D p.1 = true→ix t p.2.1 = some p.2.2) (hlt : d < t.length) (hu : ∀ p ∈ T,p.1 = i ∨ p.2.1 = d→p = (i,d,v)) :
  ∀ p ∈ T,(D p.1 || p.1 == i) = true→ix (stT t d v) p.2.1 = some p.2.2:=fun p hp hD=>by
 by_cases h : p.1 = i ∨ p.2.1 = d
 ·rw [hu p hp h]
  exact List.getElem?_set_self hlt
 ·have h1 : D p.1 = true:=by
   rcases Bool.or_eq_true_iff.1 hD with h1 | h1
   ·exact h1
   ·exact absurd (.inl (by simpa using h1)) h
  exact (List.getElem?_set_ne fun e=>h (.inr e.symm)).trans (hT p hp h1)
def s3T (y0 y1 y2 : AV) (m0 m1 m2 : Nat) : List (Nat × Nat × AV):=[(0,20,.ref 0 0),(1,21,.ref 0 0),(2,22,.ref 0 0),(3,23,y0),(4,24,rCut y0 m0),(5,25,.ref 0 0),(6,26,.ref 0 0),(7,27,.ref 0 1),(8,28,y1),(9,29,rCut y1 m1),
 (10,30,.ref 0 0),(11,31,.ref 0 0),(12,32,.ref 0 2),(13,33,y2),(14,34,rCut y2 m2),(15,2,rCut y0 m0),(16,3,rCut y1 m1),(17,4,rCut y2 m2)]
structure S3 (F : List FR) (M G : List Int) (y0 y1 y2 : AV) (D : Nat→Bool) (s : St) : Prop where
 k : s.k = []
 len : s.t.length = 35
 zero : ix s.t 0 = some (.ref 0 0)
 box : ix s.h 0 = some [y0,y1,y2]
 r0 : RowB s.h y0 F.length (if D 4 = true then rowR (padR F) else rowR F) 2
 r1 : RowB s.h y1 M.length (if D 9 = true then rowA (padZ M) else rowA M) 1
 r2 : RowB s.h y2 G.length (if D 14 = true then rowA (padZ G) else rowA G) 1
 told : ∀ p ∈ s3T y0 y1 y2 (compFM F).length (compZM M).length (compZM G).length,D p.1 = true→ix s.t p.2.1 = some p.2.2
theorem S3.put {F : List FR} {M G : List Int} {y0 y1 y2 : AV} {D : Nat→Bool} {t : List AV} {h : List (List AV)} {k : List (Nat × Nat)} (S : S3 F M G y0 y1 y2 D ⟨t,h,k⟩) {i d : Nat} {v : AV} (h4 : i ≠ 4) (h9 : i ≠ 9) (h14 : i ≠ 14) (hd : d < 35) (hd0 : d ≠ 0)
  (hu : ∀ p ∈ s3T y0 y1 y2 (compFM F).length (compZM M).length (compZM G).length,p.1 = i ∨ p.2.1 = d→p = (i,d,v)) : S3 F M G y0 y1 y2 (fun j=>D j || j == i) ⟨stT t d v,h,k⟩ where
 k:=S.k
 len:=by simp only [stT,List.length_set]; exact S.len
 zero:=(List.getElem?_set_ne hd0).trans S.zero
 box:=S.box
 r0:=by have:=S.r0; simpa [beq_iff_eq,Ne.symm h4] using this
 r1:=by have:=S.r1; simpa [beq_iff_eq,Ne.symm h9] using this
 r2:=by have:=S.r2; simpa [beq_iff_eq,Ne.symm h14] using this
 told:=told_put S.told (by rw [S.len]; exact hd) hu
theorem S3.c0 {F : List FR} {M G : List Int} {y0 y1 y2 : AV} {D : Nat→Bool} {t : List AV} {h : List (List AV)} {k : List (Nat × Nat)} (S : S3 F M G y0 y1 y2 D ⟨t,h,k⟩) (a01 : Apart y0 y1) (a02 : Apart y0 y2) (a12 : Apart y1 y2) (b : bx y0 ≠ some 0) :
  S3 F M G y0 y1 y2 (fun j=>D j || j == 4) ⟨stT t 24 (rCut y0 (compFM F).length),rPut h y0 (rowR (padR F)),k⟩ where
 k:=S.k
 len:=by simp only [stT,List.length_set]; exact S.len
 zero:=(List.getElem?_set_ne (by decide)).trans S.zero
 box:=put_zero S.box b
 r0:=by simpa using S.r0.put
 r1:=by have:=S.r1.other (cs':=rowR (padR F)) (a01); simpa using this
 r2:=by have:=S.r2.other (cs':=rowR (padR F)) (a02); simpa using this
 told:=told_put S.told (by rw [S.len]; decide) (by simp [s3T])
theorem S3.c1 {F : List FR} {M G : List Int} {y0 y1 y2 : AV} {D : Nat→Bool} {t : List AV} {h : List (List AV)} {k : List (Nat × Nat)} (S : S3 F M G y0 y1 y2 D ⟨t,h,k⟩) (a01 : Apart y0 y1) (a02 : Apart y0 y2) (a12 : Apart y1 y2) (b : bx y1 ≠ some 0) :
  S3 F M G y0 y1 y2 (fun j=>D j || j == 9) ⟨stT t 29 (rCut y1 (compZM M).length),rPut h y1 (rowA (padZ M)),k⟩ where
 k:=S.k
 len:=by simp only [stT,List.length_set]; exact S.len
 zero:=(List.getElem?_set_ne (by decide)).trans S.zero
 box:=put_zero S.box b
 r0:=by have:=S.r0.other (cs':=rowA (padZ M)) (a01.symm); simpa using this
 r1:=by simpa using S.r1.put
 r2:=by have:=S.r2.other (cs':=rowA (padZ M)) (a12); simpa using this
 told:=told_put S.told (by rw [S.len]; decide) (by simp [s3T])
theorem S3.c2 {F : List FR} {M G : List Int} {y0 y1 y2 : AV} {D : Nat→Bool} {t : List AV} {h : List (List AV)} {k : List (Nat × Nat)} (S : S3 F M G y0 y1 y2 D ⟨t,h,k⟩) (a01 : Apart y0 y1) (a02 : Apart y0 y2) (a12 : Apart y1 y2) (b : bx y2 ≠ some 0) :
  S3 F M G y0 y1 y2 (fun j=>D j || j == 14) ⟨stT t 34 (rCut y2 (compZM G).length),rPut h y2 (rowA (padZ G)),k⟩ where
 k:=S.k
 len:=by simp only [stT,List.length_set]; exact S.len
 zero:=(List.getElem?_set_ne (by decide)).trans S.zero
 box:=put_zero S.box b
 r0:=by have:=S.r0.other (cs':=rowA (padZ G)) (a02.symm); simpa using this
 r1:=by have:=S.r1.other (cs':=rowA (padZ G)) (a12.symm); simpa using this
 r2:=by simpa using S.r2.put
 told:=told_put S.told (by rw [S.len]; decide) (by simp [s3T])
theorem sorted3_d (F : List FR) (M G : List Int) {h : List (List AV)} {k : List (Nat × Nat)} {b t0 t1 t2 : Nat} {x0 x1 x2 : AV} (lF : F.length < 2^62) (lM : M.length < 2^62) (lG : G.length < 2^62)
  (h0 : OwnT k (encL fRp F) 2 x0 t0) (h1 : OwnT k (encL intF M) 1 x1 t1) (h2 : OwnT k (encL intF G) 1 x2 t2) (n01 : F ≠ []→M ≠ []→t0 ≠ t1) (n02 : F ≠ []→G ≠ []→t0 ≠ t2) (n12 : M ≠ []→G ≠ []→t1 ≠ t2) (hb : ix h b = some [x0,x1,x2]) :
  GivesD Tryz.prog 224 [.ref b 0] h k (fun y h' k'=>∃ z0 z1 z2,y = .tup [z0,z1,z2]∧RetV h' z0 (· = ownF (encL fRp (canR F)))∧RetV h' z1 (· = ownF (encL intF (canZ M)))∧RetV h' z2 (· = ownF (encL intF (canZ G)))):=by
 refine GivesD.of_Wd Tryz.func224 rfl rfl rfl (by decide) ?_
 refine Wd.two (W.x mixed (by kernel_rfl) ?_)
 simp
 have eZ : ∀ l : List Int,encL intF l ≠ []→l ≠ []:=fun l h e=>h (by rw [e]; rfl)
 have eR : encL fRp F ≠ []→F ≠ []:=fun h e=>h (by rw [e]; rfl)
 refine Wd.thaw3 (d:=0) (b:=b) rfl hb h0 (by decide) (fRp_scs _) h1 (by decide) (intF_scs _) h2 (by decide) (intF_scs _) (fun p q=>n01 (eR p) (eZ _ q)) (fun p q=>n02 (eR p) (eZ _ q)) (fun p q=>n12 (eZ _ p) (eZ _ q)) ?_
 rintro y0 y1 y2 R ⟨ts,hh,kk⟩ r0 r1 r2 m0 m1 m2 a01 a02 a12 b0 b1 b2 ⟨rfl,rfl,ff,rfl⟩
 have m0 : F = []→y0 = .f (.sl [] .nil):=fun e=>m0 (by rw [e]; rfl)
 have m1 : M = []→y1 = .f (.sl [] .nil):=fun e=>m1 (by rw [e]; rfl)
 have m2 : G = []→y2 = .f (.sl [] .nil):=fun e=>m2 (by rw [e]; rfl)
 rw [flatA_fr,encL_length] at r0
 rw [flatA_z,encL_length] at r1 r2
 refine Wd.two (W.x mixed (by kernel_rfl) ?_)
 simp
 refine call_x (sortR_x sortedC_enters sortedC_any r0 lF) ?_
 rintro _ H1 _ ⟨rfl,e1,rfl⟩
 have box1 : ix H1 0 = some [y0,y1,y2]:=by rw [e1]; exact put_zero rfl b0
 have p0 : RowB H1 y0 F.length (rowR (sortRM F)) 2:=by rw [e1]; exact r0.put
 have p1 : RowB H1 y1 M.length (rowA M) 1:=by rw [e1]; exact r1.other a01
 have p2 : RowB H1 y2 G.length (rowA G) 1:=by rw [e1]; exact r2.other a02
 clear e1 r0 r1 r2
 simp
 refine Wd.two (W.x mixed (by kernel_rfl) ?_)
 simp [box1]
 refine call_x (sortZ_x p1 lM) ?_
 rintro _ H2 _ ⟨rfl,e1,rfl⟩
 have box2 : ix H2 0 = some [y0,y1,y2]:=by rw [e1]; exact put_zero box1 b1
 have r0 : RowB H2 y0 F.length (rowR (sortRM F)) 2:=by rw [e1]; exact p0.other a01.symm
 have r1 : RowB H2 y1 M.length (rowA (sortZM M)) 1:=by rw [e1]; exact p1.put
 have r2 : RowB H2 y2 G.length (rowA G) 1:=by rw [e1]; exact p2.other a12
 clear e1 p0 p1 p2 box1
 simp
 refine Wd.two (W.x mixed (by kernel_rfl) ?_)
 simp [box2]
 refine call_x (sortZ_x r2 lG) ?_
 rintro _ H3 _ ⟨rfl,e1,rfl⟩
 have box3 : ix H3 0 = some [y0,y1,y2]:=by rw [e1]; exact put_zero box2 b2
 have p0 : RowB H3 y0 (sortRM F).length (rowR (sortRM F)) 2:=by rw [e1,sortRM_len]; exact r0.other a02.symm
 have p1 : RowB H3 y1 (sortZM M).length (rowA (sortZM M)) 1:=by rw [e1,sortZM_len]; exact r1.other a12.symm
 have p2 : RowB H3 y2 (sortZM G).length (rowA (sortZM G)) 1:=by rw [e1,sortZM_len]; exact r2.put
 clear e1 r0 r1 r2 box2
 simp
 have qF:=sortRM_len F
 have qM:=sortZM_len M
 have qG:=sortZM_len G
 refine Wd.two (W.draw_sem mixed (S3 (sortRM F) (sortZM M) (sortZM G) y0 y1 y2) (noGuard_of (by kernel_rfl)) ⟨rfl,rfl,rfl,box3,by simpa using p0,by simpa using p1,by simpa using p2,fun p _ h=>by cases h⟩ ?_ ?_ (by kernel_rfl))
 ·rintro D ⟨t,h,k⟩ i o ho hD hdep S
  have hT:=S.told
  have hz:=S.zero
  have hbx:=S.box
  match i,ho with
  | 0,ho =>
   obtain rfl:=Option.some.inj ho
   simp [hz]
   exact S.put (by decide) (by decide) (by decide) (by decide) (by decide) (by simp [s3T])
  | 1,ho =>
   obtain rfl:=Option.some.inj ho
   have d0 : D 0 = true:=hdep ⟨0,.data⟩ (by simp) rfl
   have f0 : ix t 20 = some (.ref 0 0):=hT (0,20,.ref 0 0) (by simp [s3T]) d0
   simp [f0]
   exact S.put (by decide) (by decide) (by decide) (by decide) (by decide) (by simp [s3T])
  | 2,ho =>
   obtain rfl:=Option.some.inj ho
   have d1 : D 1 = true:=hdep ⟨1,.data⟩ (by simp) rfl
   have f1 : ix t 21 = some (.ref 0 0):=hT (1,21,.ref 0 0) (by simp [s3T]) d1
   simp [f1]
   exact S.put (by decide) (by decide) (by decide) (by decide) (by decide) (by simp [s3T])
  | 3,ho =>
   obtain rfl:=Option.some.inj ho
   have d2 : D 2 = true:=hdep ⟨2,.data⟩ (by simp) rfl
   have f2 : ix t 22 = some (.ref 0 0):=hT (2,22,.ref 0 0) (by simp [s3T]) d2
   simp [f2,hbx]
   exact S.put (by decide) (by decide) (by decide) (by decide) (by decide) (by simp [s3T])
  | 4,ho =>
   obtain rfl:=Option.some.inj ho
   have d3 : D 3 = true:=hdep ⟨3,.data⟩ (by simp) rfl
   have f3 : ix t 23 = some (y0):=hT (3,23,y0) (by simp [s3T]) d3
   simp [f3]
   refine call_x (compR_x (l:=sortRM F) (by have:=S.r0; rw [hD] at this; simpa using this) (by omega)) ?_
   rintro _ _ _ ⟨rfl,rfl,rfl⟩
   simp
   exact S.c0 a01 a02 a12 b0
  | 5,ho =>
   obtain rfl:=Option.some.inj ho
   simp [hz]
   exact S.put (by decide) (by decide) (by decide) (by decide) (by decide) (by simp [s3T])
  | 6,ho =>
   obtain rfl:=Option.some.inj ho
   have d5 : D 5 = true:=hdep ⟨5,.data⟩ (by simp) rfl
   have f5 : ix t 25 = some (.ref 0 0):=hT (5,25,.ref 0 0) (by simp [s3T]) d5
   simp [f5]
   exact S.put (by decide) (by decide) (by decide) (by decide) (by decide) (by simp [s3T])
  | 7,ho =>
   obtain rfl:=Option.some.inj ho
   have d6 : D 6 = true:=hdep ⟨6,.data⟩ (by simp) rfl
   have f6 : ix t 26 = some (.ref 0 0):=hT (6,26,.ref 0 0) (by simp [s3T]) d6
   simp [f6]
   exact S.put (by decide) (by decide) (by decide) (by decide) (by decide) (by simp [s3T])
  | 8,ho =>
   obtain rfl:=Option.some.inj ho
   have d7 : D 7 = true:=hdep ⟨7,.data⟩ (by simp) rfl
   have f7 : ix t 27 = some (.ref 0 1):=hT (7,27,.ref 0 1) (by simp [s3T]) d7
   simp [f7,hbx]
   exact S.put (by decide) (by decide) (by decide) (by decide) (by decide) (by simp [s3T])
  | 9,ho =>
   obtain rfl:=Option.some.inj ho
   have d8 : D 8 = true:=hdep ⟨8,.data⟩ (by simp) rfl
   have f8 : ix t 28 = some (y1):=hT (8,28,y1) (by simp [s3T]) d8
   simp [f8]
   refine call_x (compZ_x (l:=sortZM M) (by have:=S.r1; rw [hD] at this; simpa using this) (by omega)) ?_
   rintro _ _ _ ⟨rfl,rfl,rfl⟩
   simp
   exact S.c1 a01 a02 a12 b1
  | 10,ho =>
   obtain rfl:=Option.some.inj ho
   simp [hz]
   exact S.put (by decide) (by decide) (by decide) (by decide) (by decide) (by simp [s3T])
  | 11,ho =>
   obtain rfl:=Option.some.inj ho
   have d10 : D 10 = true:=hdep ⟨10,.data⟩ (by simp) rfl
   have f10 : ix t 30 = some (.ref 0 0):=hT (10,30,.ref 0 0) (by simp [s3T]) d10
   simp [f10]
   exact S.put (by decide) (by decide) (by decide) (by decide) (by decide) (by simp [s3T])
  | 12,ho =>
   obtain rfl:=Option.some.inj ho
   have d11 : D 11 = true:=hdep ⟨11,.data⟩ (by simp) rfl
   have f11 : ix t 31 = some (.ref 0 0):=hT (11,31,.ref 0 0) (by simp [s3T]) d11
   simp [f11]
   exact S.put (by decide) (by decide) (by decide) (by decide) (by decide) (by simp [s3T])
  | 13,ho =>
   obtain rfl:=Option.some.inj ho
   have d12 : D 12 = true:=hdep ⟨12,.data⟩ (by simp) rfl
   have f12 : ix t 32 = some (.ref 0 2):=hT (12,32,.ref 0 2) (by simp [s3T]) d12
   simp [f12,hbx]
   exact S.put (by decide) (by decide) (by decide) (by decide) (by decide) (by simp [s3T])
  | 14,ho =>
   obtain rfl:=Option.some.inj ho
   have d13 : D 13 = true:=hdep ⟨13,.data⟩ (by simp) rfl
   have f13 : ix t 33 = some (y2):=hT (13,33,y2) (by simp [s3T]) d13
   simp [f13]
   refine call_x (compZ_x (l:=sortZM G) (by have:=S.r2; rw [hD] at this; simpa using this) (by omega)) ?_
   rintro _ _ _ ⟨rfl,rfl,rfl⟩
   simp
   exact S.c2 a01 a02 a12 b2
  | 15,ho =>
   obtain rfl:=Option.some.inj ho
   have d4 : D 4 = true:=hdep ⟨4,.data⟩ (by simp) rfl
   have f4 : ix t 24 = some (rCut y0 (compFM (sortRM F)).length):=hT (4,24,rCut y0 (compFM (sortRM F)).length) (by simp [s3T]) d4
   simp [f4]
   exact S.put (by decide) (by decide) (by decide) (by decide) (by decide) (by simp [s3T])
  | 16,ho =>
   obtain rfl:=Option.some.inj ho
   have d9 : D 9 = true:=hdep ⟨9,.data⟩ (by simp) rfl
   have f9 : ix t 29 = some (rCut y1 (compZM (sortZM M)).length):=hT (9,29,rCut y1 (compZM (sortZM M)).length) (by simp [s3T]) d9
   simp [f9]
   exact S.put (by decide) (by decide) (by decide) (by decide) (by decide) (by simp [s3T])
  | 17,ho =>
   obtain rfl:=Option.some.inj ho
   have d14 : D 14 = true:=hdep ⟨14,.data⟩ (by simp) rfl
   have f14 : ix t 34 = some (rCut y2 (compZM (sortZM G)).length):=hT (14,34,rCut y2 (compZM (sortZM G)).length) (by simp [s3T]) d14
   simp [f14]
   exact S.put (by decide) (by decide) (by decide) (by decide) (by decide) (by simp [s3T])
  | n + 18,ho=>exact absurd ho (by simp)
 ·rintro D ⟨t,h,k⟩ hD S
  have e2 : ix t 2 = some (rCut y0 (compFM (sortRM F)).length):=S.told (15,2,rCut y0 (compFM (sortRM F)).length) (by simp [s3T]) (hD 15 (by decide))
  have e3 : ix t 3 = some (rCut y1 (compZM (sortZM M)).length):=S.told (16,3,rCut y1 (compZM (sortZM M)).length) (by simp [s3T]) (hD 16 (by decide))
  have e4 : ix t 4 = some (rCut y2 (compZM (sortZM G)).length):=S.told (17,4,rCut y2 (compZM (sortZM G)).length) (by simp [s3T]) (hD 17 (by decide))
  have r0:=S.r0
  have r1:=S.r1
  have r2:=S.r2
  rw [hD 4 (by decide),if_pos rfl] at r0
  rw [hD 9 (by decide),if_pos rfl] at r1
  rw [hD 14 (by decide),if_pos rfl] at r2
  have nF : sortRM F = []→y0 = .f (.sl [] .nil):=fun e=>m0 (List.eq_nil_of_length_eq_zero (by rw [← qF,e]; rfl))
  have nM : sortZM M = []→y1 = .f (.sl [] .nil):=fun e=>m1 (List.eq_nil_of_length_eq_zero (by rw [← qM,e]; rfl))
  have nG : sortZM G = []→y2 = .f (.sl [] .nil):=fun e=>m2 (List.eq_nil_of_length_eq_zero (by rw [← qG,e]; rfl))
  simp
  refine Wd.x mixed (by kernel_rfl) ?_
  simp [e2,e3,e4,resA]
  exact ⟨_,_,_,⟨rfl,rfl,rfl⟩,r0.retR rfl nF (fun e=>compTo_ne (List.length_pos_iff.2 e) (Nat.le_refl _)),r1.retZ rfl nM compZM_ne,r2.retZ rfl nG compZM_ne⟩
theorem take_one {α : Type} {l : List α} {i : Nat} {x : α} (h : l[i]? = some x) : l.take i ++ [x] = l.take (i + 1):=by rw [List.take_add_one,h]; rfl
theorem encL_take {α : Type} {e : α→FV} {l : List α} {i : Nat} {x : α} (h : l[i]? = some x) : encL e (l.take (i + 1)) = encL e (l.take i) ++ [e x]:=by
 rw [List.take_add_one,h]
 simp [encL]
theorem own_stays {k k' : List (Nat × Nat)} {lx ly : List FV} {sx tx ty t' : Nat} {x : AV} (hx : OwnT k lx sx x tx) (hne : lx ≠ []→ly ≠ []→tx ≠ ty) (h : ∀ i,i < k.length→(ly ≠ []→i ≠ ty)→k'[i]? = k[i]?∧t' ≠ i) : OwnT k' lx sx x tx∧(lx ≠ []→t' ≠ tx) :=
 ⟨hx.keep fun h1=>(h tx (hx.lt h1) (hne h1)).1,fun h1=>(h tx (hx.lt h1) (hne h1)).2⟩
end Go.Proofs.YtafenffmgpcjcaaGreat
