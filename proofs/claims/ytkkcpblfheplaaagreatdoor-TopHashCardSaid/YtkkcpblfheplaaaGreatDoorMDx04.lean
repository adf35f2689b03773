/- Contracts of functions that the laws of downpourtop reach, and plain facts; no condition beyond what each theorem states. -/
import Derived.Test.YtkkcpblfheplaaaGreatDoorMDx03
import Derived.Test.YtkkcpblfheplaaaGreatDoorMHx02
set_option maxRecDepth 100000
set_option maxHeartbeats 8000000
set_option linter.all false
namespace Go.Proofs.YtkkcpblfheplaaaGreatDoor
open Go.RowKit
def symL (s : B32) (K P S : Nat) (img : List UInt8) (id : B32) : List UInt8 := four s ++ four id ++ symV (pcs s K P S img) (rowOf (rowL s K P id)) (K + P) S
theorem symL_len (s : B32) (K P S : Nat) (img : List UInt8) (id : B32) : (symL s K P S img id).length = 8 + S := by
 unfold symL
 rw [List.length_append,List.length_append,symV_len,four_len,four_len]
theorem symL_parts (s : B32) (K P S : Nat) (img : List UInt8) (id : B32) : numB ((symL s K P S img id).take 4) = s ∧ numB (((symL s K P S img id).drop 4).take 4) = id ∧ (symL s K P S img id).drop 8 = symV (pcs s K P S img) (rowOf (rowL s K P id)) (K + P) S :=
 ⟨numB_four s,numB_four id,rfl⟩
theorem rowB_row (s : B32) (K P : Nat) (id : B32) (i : Nat) (hi : i < 64) : bR (rowB s K P id) i = rowOf (rowL s K P id) i := by
 unfold bR rowB rowOf
 rw [ofL_bit _ i hi]
theorem sym_says (s : B32) (K P S : Nat) (img : List UInt8) (id : B32) (hn : K + P ≤ 64) :
   Says (fun i t => ((pcs s K P S img).getD i []).getD t 0) (K + P) S (bR (rowB s K P id),symV (pcs s K P S img) (rowOf (rowL s K P id)) (K + P) S) := by
 rw [← symV_congr (pcs s K P S img) (pcs s K P S img) (bR (rowB s K P id)) (rowOf (rowL s K P id)) (K + P) S (fun i hi => ⟨rowB_row s K P id i (by omega),rfl⟩)]
 exact symV_says _ _ _ _
theorem StAt.more {w : World} {B sp wp f bb d g rb : Nat} {bk : Nat → RB} {gen s : B32} {K P S L : Nat} {LA : Option Addr} {nl cl next : Nat} {l : List UInt8} {er : Nat → Int} {wear : Int} {rows rows' : List (B64 × List UInt8)} {M : MatB} {rank taken : Nat}
   (h : StAt w B sp wp f bb d g rb bk gen s K P S L LA nl cl next l er wear rows M rank taken) (hi : DInv (K + P) S rows' M rank) : StAt w B sp wp f bb d g rb bk gen s K P S L LA nl cl next l er wear rows' M rank taken :=
 ⟨h.st,h.wh,h.own,h.fl,h.dc,h.mt,hi,h.low,h.nod,h.fb,h.blank,h.base⟩
theorem StC.blk {w : World} {st : Array Value} {q : SSt} (h : StC w st q) : ∀ (i : Nat) A n c ad,st[i]? = some (.slice A n c) → A = some ad → ad.block < w.heap.size := by
 obtain ⟨x0,x1,x2,rfl,h0,h1,h2⟩ := h
 intro i A n c ad hi hA
 have key : ∀ {x : Value} {H : Option (List UInt8)},HSt w x H → x = .slice A n c → ad.block < w.heap.size := fun {x H} hx e => by
   cases H with
   | none =>
     rw [hx] at e
     cases e
     cases hA
   | some H =>
     obtain ⟨A',c',e1,e2⟩ := hx
     rw [e1] at e
     cases e
     obtain ⟨ad',e3,e4⟩ := e2.ptr (by omega)
     cases e3.symm.trans hA
     exact e4
 unfold stArr steC at hi
 match i with
 | 0 | 1 | 2 | 3 | 4 | 5 | 7 | 8 | 10 | 11 | 12 | 13 | 14 | 15 => simp at hi
 | 6 => exact key h0 (by simpa using hi)
 | 9 => exact key h1 (by simpa using hi)
 | 16 => exact key h2 (by simpa using hi)
 | k + 17 => simp at hi
theorem full_pcs {s : B32} {K P S : Nat} {img : List UInt8} {rows : List (B64 × List UInt8)} {M : MatB} (h : DInv (K + P) S rows M (K + P)) (hr : ∀ r,r ∈ rows → Says (fun i t => ((pcs s K P S img).getD i []).getD t 0) (K + P) S (bR r.1,r.2)) (hlen : img.length ≤ K * S) :
   ∀ (i : Nat) l,(pcs s K P S img)[i]? = some l → ∃ x,M i = some (x,l) := by
 intro i l hl
 have hi : i < K + P := by
   have := (List.getElem?_eq_some_iff.1 hl).1
   rwa [pcs_len] at this
 obtain ⟨x,hx⟩ := h.full rfl _ hr i hi
 refine ⟨x,hx.trans ?_⟩
 have hd : (pcs s K P S img).getD i [] = l := by rw [List.getD_eq_getElem?_getD,hl]; rfl
 have hll := pcs_all s K P S img hlen i hi
 rw [hd] at hll ⊢
 congr 2
 apply List.ext_getElem?
 intro t
 rw [List.getElem?_map]
 by_cases ht : t < S
 · rw [List.getElem?_range ht,List.getElem?_eq_getElem (by omega)]
   simp only [Option.map_some,Option.some.injEq]
   rw [List.getD_eq_getElem?_getD,List.getElem?_eq_getElem (by omega)]
   rfl
 · rw [List.getElem?_eq_none (by simp; omega),List.getElem?_eq_none (by omega)]
   rfl
def SymR (F : Nat → Prop) (w : World) (d : Nat) (s v : B32) (S P K : Nat) (H2 img : List UInt8) (put : List B32) (r : Int) (w' : World) : Prop :=
 ((r = 0 ∨ r = 8) ∧ ∃ F',OnD F' w' d s v S P K H2 img put ∧ Fr (fun b => F b ∧ b ≠ 1) w w' ∧ ∀ b,F' b → F b ∨ w.heap.size ≤ b) ∨
 (sha img = H2 ∧ K ≤ put.length ∧ r = 0 ∧ ∃ F',OffD F' w' d (twoQ 3 0#32 1#32 1#32 v 3 img.length (sha sunL) H2) 3 img ∧ Fr (fun b => F b ∧ b ≠ 1) w w') ∨
 (sha img ≠ H2 ∧ r = 13 ∧ ∃ F',OffD F' w' d (offQ 0#32 1#32 1#32 3 (sha sunL)) 3 sunL ∧ Fr (fun b => F b ∧ b ≠ 1) w w')
theorem OnD.symbol {F : Nat → Prop} {w : World} {d : Nat} {s v : B32} {S P K : Nat} {H2 img : List UInt8} {put : List B32} (h : OnD F w d s v S P K H2 img put) (hs : Sess s v S P K H2 img) (id : B32) (X : Option Addr) (m c : Nat) (hr : Rd w X m c (wrapL 2 (symL s K P S img id))) :
   Calls Tryz.prog 12 #[.pointer (some ⟨d,0,none⟩),.slice X m c] w fun e w' => ∃ r : Int,e = .returned (.int .i64 r) ∧ SymR F w d s v S P K H2 img (put ++ [id]) r w' := by
 obtain ⟨f,bb,mb,B,sp,wp,dd,g,rb,bk,kA,kc,x0,x1,A2,a2,LA,t,cl,fls,er,rows,M,rank,h⟩ := h
 have hp := hs.pos
 have hkp := hs.kp
 have hok := hs.sp
 refine packet_sym d f mb _ _ _ X m c _ (symL s K P S img id) w h.dev h.mem h.stc.size17 hr (unw_wrap 2 _ (by omega) (by omega) (by rw [symL_len]; omega)) (SymR F w d s v S P K H2 img (put ++ [id])) (fun w1 A n cc hB hx => ?_)
 have hnl := hx.1
 rw [symL_len] at hnl
 subst hnl
 obtain ⟨p1,p2,p3⟩ := symL_parts s K P S img id
 have hsz1 := hB.size
 have hdev := h.dev.below hB
 have hmem : MemAt w1 mb (onA 0#32 1#32 1#32 3 x0 x1 s v img.length S P A2 a2) (some ⟨sp,0,none⟩) := Blk.below h.mem hB
 have hsto := h.sto.below hB
 have hstc := h.stc.below hB
 have hkey := h.key.below hB
 have hT := h.tab.below hB
 have hle := hsto.inv.le
 have hsays : ∀ r,r ∈ rows ++ [(rowB s K P id,symV (pcs s K P S img) (rowOf (rowL s K P id)) (K + P) S)] → Says (fun i t => ((pcs s K P S img).getD i []).getD t 0) (K + P) S (bR r.1,r.2) := fun r hr2 => by
   rw [List.mem_append,List.mem_singleton] at hr2
   rcases hr2 with hr2 | rfl
   · exact h.says r hr2
   · exact sym_says s K P S img id (by omega)
 have hpar : ∀ j,j < P → ∃ y,(parX s K j K,y) ∈ rows ++ [(rowB s K P id,symV (pcs s K P S img) (rowOf (rowL s K P id)) (K + P) S)] := fun j hj => by
   obtain ⟨y,hy⟩ := h.par j hj
   exact ⟨y,List.mem_append_left _ hy⟩
 have hputs : ∀ i,i ∈ put ++ [id] → ∃ y,(rowB s K P i,y) ∈ rows ++ [(rowB s K P id,symV (pcs s K P S img) (rowOf (rowL s K P id)) (K + P) S)] := fun i hi => by
   rw [List.mem_append,List.mem_singleton] at hi
   rcases hi with hi | rfl
   · obtain ⟨y,hy⟩ := h.puts i hi
     exact ⟨y,List.mem_append_left _ hy⟩
   · exact ⟨_,List.mem_append_right _ (List.mem_singleton.2 rfl)⟩
 have hfl := hsto.fb
 have hn18 : rank ≤ 18 := by omega
 have htr := h.rk.1
 have hsto1 : ∀ b,StoF wp f bb LA dd g rb bk M b → b < w1.heap.size ∧ (b = f ∨ b = bb ∨ B ≤ b) := StoF.lt hsto
 have hnot1 : ¬ StoF wp f bb LA dd g rb bk M 1 := fun k => by
   have hb := h.big
   rcases (hsto1 1 k).2 with k | k | k <;> omega
 have hnotA : ∀ (i : Nat) A n c ad,(onA 0#32 1#32 1#32 3 x0 x1 s v img.length S P A2 a2)[i]? = some (.slice A n c) → A = some ad → ¬ StoF wp f bb LA dd g rb bk M ad.block := fun i A n c ad e1 e2 k => by
   have h1 := h.low i A n c ad e1 e2
   rcases (hsto1 _ k).2 with k | k | k <;> omega
 have hnotK : ∀ ad,kA = some ad → ¬ StoF wp f bb LA dd g rb bk M ad.block := fun ad e k => by
   have h1 := h.keyN ad e
   rcases (hsto1 _ k).2 with k | k | k <;> omega
 by_cases hz : (redB M (rowB s K P id,(symL s K P S img id).drop 8) (K + P)).1 = 0#64
 · refine (takes_dup d f bb mb B sp wp dd g rb bk _ 0#32 1#32 1#32 3 x0 x1 s v img.length S P K A2 a2 LA t cl t fls er 100 rows M rank t A cc _ id w1 hdev hmem hsto hs.cn hok (by omega) (by omega) hs.sz (by have := hs.len; omega) hT hx p1 p2 hz).mono ?_
   rintro e w' ⟨rfl,hB2⟩
   refine ⟨8,rfl,rfl,.inl ⟨.inr rfl,F,OnD.below (w := w1) ?_ hB2,.of (below_next hB hB2),fun b hb => .inl hb⟩⟩
   rw [p3] at hz
   refine ⟨f,bb,mb,B,sp,wp,dd,g,rb,bk,kA,kc,x0,x1,A2,a2,LA,t,cl,fls,er,_,M,rank,⟨hdev,hkey,h.keyN,hmem,hstc,hsto.more (hsto.inv.dup _ hz),⟨h.rk.1,h.rk.2.1,by rw [List.length_append,List.length_append,h.rk.2.2]; rfl⟩,h.flg,h.ere,h.sub,h.bl,hsays,hpar,hputs,h.low,h.fd,h.fs,h.fk,h.fh,h.big,hT,fun b hb => Nat.lt_of_lt_of_le (h.lt b hb) hsz1⟩⟩
 · -- after a symbol that is new
   have hflg : FlG (addL fls 1#32 id S t ((symL s K P S img id).drop 8)) (onS s v S P H2 img) 2 := h.flg.same (addL_len _ _ _ _ _ _) (fun j hj => addL_low _ _ _ _ _ _ _ (by omega))
   have hsub : Sub (addL fls 1#32 id S t ((symL s K P S img id).drop 8)) 512 sunL := h.sub.same (fun j h1 h2 => addL_low _ _ _ _ _ _ _ (by simp [sunL] at h2; omega))
   have hbl : ∀ j,1024 ≤ j → j < 1536 → (addL fls 1#32 id S t ((symL s K P S img id).drop 8))[j]? = some 255 := fun j h1 h2 => (addL_low _ _ _ _ _ _ _ (by omega)).trans (h.bl j h1 h2)
   by_cases hrk : rank + 1 < K + P
   · refine (takes_new d f bb mb B sp wp dd g rb bk _ 0#32 1#32 1#32 3 x0 x1 s v img.length S P K A2 a2 LA t cl t fls er 100 rows M rank t A cc _ id w1 hdev hmem hsto hs.cn hok (by omega) (by omega) hs.sz (by have := hs.len; omega) hT hx p1 p2 h.big.2.2.2.2 ⟨h.big.2.1,h.big.2.2.1⟩ (by omega) (by omega) (by omega) hz hrk).mono ?_
     rintro e w' ⟨rfl,bk',LA',cl',M',hSt,hd',hm',hF,hgr⟩
     have hsF := hF.size
     have hFw : Fr (fun b => F b ∧ b ≠ 1) w w' := (Fr.of hB).trans (hF.mono fun b _ hb => ⟨h.fs b hb,fun e => hnot1 (e ▸ hb)⟩)
     have hspl := hSt.st.lt
     rw [p3] at hSt
     rw [p3] at hflg hsub hbl
     refine ⟨0,rfl,rfl,.inl ⟨.inl rfl,fun b => F b ∨ (w.heap.size ≤ b ∧ b < w'.heap.size),⟨f,bb,mb,B,sp,wp,dd,g,rb,bk',kA,kc,x0,x1,A2,a2,LA',t + 1,cl',_,er,_,M',rank + 1,⟨hd',hkey.fr hF (fun _ ad e => hnotK ad e),h.keyN,hm',hstc.frN hF hnotA,hSt,⟨by omega,hrk,by rw [List.length_append,List.length_append,h.rk.2.2]; rfl⟩,hflg,h.ere,hsub,hbl,hsays,hpar,hputs,h.low,
       ⟨.inl h.fd.1,.inl h.fd.2.1,.inl h.fd.2.2.1,.inl h.fd.2.2.2.1,.inl h.fd.2.2.2.2.1,.inl h.fd.2.2.2.2.2⟩,fun b hb => ?_,fun ad e => .inl (h.fk ad e),fun i A n c ad e1 e2 => .inl (h.fh i A n c ad e1 e2),h.big,hT.keep hF hnot1,fun b hb => ?_⟩⟩,hFw,fun b hb => ?_⟩⟩
     · have h1 := (StoF.lt hSt b hb).1
       rcases hgr b hb with k | k
       · exact .inl (h.fs b k)
       · exact .inr ⟨by omega,h1⟩
     · rcases hb with hb | hb
       · have := h.lt b hb; omega
       · exact hb.2
     · rcases hb with hb | hb
       · exact .inl hb
       · exact .inr hb.1
   · have hrk1 := h.rk.2
     refine (takes_full d f bb mb B sp wp dd g rb bk _ 0#32 1#32 1#32 3 x0 x1 s v img.length S P K A2 a2 LA t cl t fls er 100 rows M rank t A cc _ id w1 hdev hmem hsto hs.cn hok (by omega) (by omega) hs.sz (by have := hs.len; omega) hT hx p1 p2 h.big.2.2.2.2 ⟨h.big.2.1,h.big.2.2.1⟩ (by omega) (by omega) (by omega) hz (by omega)
       (fun r w' => (r == 11) = false ∧ SymR F w d s v S P K H2 img (put ++ [id]) r w') (fun w7 bk' LA' cl' M' hSt hd7 hm7 hF7 => ?_)).mono (fun e w' hh => by obtain ⟨r,rfl,h1,h2⟩ := hh; exact ⟨r,rfl,h1,h2⟩)
     have hs7 := hF7.size
     have hst7 := hstc.frN hF7 hnotA
     have hinv := hSt.inv
     rw [p3] at hinv
     have hds := full_pcs hinv hsays hp.2.2.2.2.2
     have hKn : K ≤ (put ++ [id]).length := by
       have h1 := hinv.few
       have h2 := h.rk.2.2
       rw [List.length_append,h2] at h1
       rw [List.length_append]
       simp only [List.length_singleton] at h1 ⊢
       omega
     have hke7 := hkey.fr hF7 (fun _ ad e => hnotK ad e)
     have hT7 := hT.keep hF7 hnot1
     have hH : Rd w7 A2 32 a2 H2 := by
       have hst7' := hst7
       obtain ⟨y0,y1,y2,e,_,_,⟨A2',a2',e2,hH2⟩⟩ := hst7'
       have h16 : (onA 0#32 1#32 1#32 3 x0 x1 s v img.length S P A2 a2)[16]? = some (.slice A2 32 a2) := rfl
       rw [e] at h16
       have h17 : (stArr (onS s v S P H2 img) y0 y1 y2)[16]? = some y2 := rfl
       rw [h17,e2] at h16
       cases h16
       exact hH2
     have hback : ((pcs s K P S img).take K).flatten.take img.length = img := by rw [pcs_take]; exact splitL_back img S K hp.2.2.2.2.2
     have hfll : img.length ≤ ((pcs s K P S img).take K).flatten.length := by rw [pcs_take,splitL_flat img S K hp.2.2.2.2.2,fullL_len img _ hp.2.2.2.2.2]; exact hp.2.2.2.2.2
     have hsm : ∀ l,l ∈ pcs s K P S img → l.length ≤ 1000 := fun l hl => by
       obtain ⟨i,hi⟩ := List.getElem?_of_mem hl
       have h1 := (List.getElem?_eq_some_iff.1 hi).1
       rw [pcs_len] at h1
       have := pcs_all s K P S img hp.2.2.2.2.2 i h1
       rw [List.getD_eq_getElem?_getD,hi] at this
       simp only [Option.getD_some] at this
       omega
     have hddB := hSt.low.2.2.1
     have hdd1 : dd < w7.heap.size := hSt.dc.lt
     have hFw7 : Fr (fun b => F b ∧ b ≠ 1) w w7 := (Fr.of hB).trans (hF7.mono fun b _ hb => ⟨h.fs b hb,fun e => hnot1 (e ▸ hb)⟩)
     have hFdd : F dd := h.fs dd (.inr (.inr (.inr (.inr (.inl rfl)))))
     have hkey4 : ∀ ad,kA = some ad → ¬ (ad.block = d ∨ ad.block = f ∨ ad.block = bb ∨ ad.block = dd) := fun ad e k => by
       have := h.keyN ad e
       rcases k with k | k | k | k <;> omega
     have hone4 : ¬ (1 = d ∨ 1 = f ∨ 1 = bb ∨ 1 = dd) := fun k => by
       have := h.big
       rcases k with k | k | k | k <;> omega
     have hkl : ∀ {w' : World},Rd w' kA 3 kc keyL → ∀ ad,kA = some ad → ad.block < w'.heap.size := fun hk ad e => by
       obtain ⟨ad',e2,h2⟩ := hk.ptr (by omega)
       cases e2.symm.trans e
       exact h2
     by_cases he : sha img = H2
     · have hqo : (twoQ 3 0#32 1#32 1#32 v 3 img.length (sha sunL) H2).Ok := .two 3 _ _ _ _ _ _ _ _ (by omega) (by omega) (by omega) hp.1 hs.len (sha_len _) hs.h2
       have hg2 : FlG (imgC (addL fls 1#32 id S t ((symL s K P S img id).drop 8)) img 1) (onS s v S P H2 img) 2 := hflg.same (img_len _ _ _) (fun j hj => img_other _ _ _ _ (.inl (by omega)))
       refine (finishes_good d f bb mb B sp wp dd g rb bk' kA 3 kc 0#32 1#32 1#32 3 x0 x1 s v img.length S P K A2 a2 LA' (t + 1) cl' (t + 1) _ er _ M' (t + 1) (sha sunL) H2 (pcs s K P S img) w7 hd7 hm7 hSt hs.cn hok (by omega) hs.sz hp.1 hs.len (pcs_len _ _ _ _ _) hds hfll hsm hst7 hs.ok hqo hH
         (fun i A n c ad e1 e2 => ⟨(h.low i A n c ad e1 e2).1,(h.low i A n c ad e1 e2).2.2⟩) (by rw [hback]; exact he) (fun k hk => blank_of _ _ (fun j h1 h2 => hbl j (by omega) (by omega))) (by rw [hback]; have := hg2.num; omega) (by have := h.ere (toC (imgC (addL fls 1#32 id S t ((symL s K P S img id).drop 8)) (((pcs s K P S img).take K).flatten.take img.length) 1)); omega) (h.ere _).1).mono ?_
       rintro e w' ⟨mb',st',rfl,hd',hm',hC',hf',hF⟩
       rw [hback] at hf'
       have hkk := hke7.fr hF (fun _ ad e => hkey4 ad e)
       have hsF := hF.size
       have hg3 := hg2.write (by omega) hqo
       have hml := Blk.lt hm'
       have hT' := hT7.keep hF hone4
       have hT1 : 1 < w'.heap.size := World.block_lt_of_cell? w' _ (hT' 0 (by omega))
       refine ⟨0,rfl,rfl,.inr (.inl ⟨he,hKn,rfl,fun b => b < w'.heap.size,⟨f,bb,mb',kA,kc,st',_,_,{
         dev := hd'
         key := hkk
         keyN := fun ad e => ⟨(h.keyN ad e).1,(h.keyN ad e).2.1,(h.keyN ad e).2.2.1⟩
         mem := hm'
         stc := hC'
         fla := hf'
         flg := hg3
         ere := fun i => by
           have := h.ere i
           unfold erMore
           split <;> omega
         sub := Sub.same (sub_img _ _ 1 (fun j h1 h2 => hbl j (by omega) (by have := hs.len; omega))) (fun j h1 h2 => write_high _ _ hqo _ (Nat.le_trans (by omega) h1))
         len := hs.len
         act := .inr ⟨rfl,rfl⟩
         ok := hqo
         off := rfl
         bl := fun h => by omega
         fd := ⟨hd'.lt,by have := hfl.1; have := hSt.base; omega,by have := hfl.2; have := hSt.base; omega,hml,hT1⟩
         fk := hkl hkk
         fh := hC'.blk
         big := ⟨h.big.1,h.big.2.1,h.big.2.2.1⟩
         tab := hT'
         lt := fun b hb => hb }⟩,hFw7.trans (hF.mono fun b _ hb => ⟨by rcases hb with rfl | rfl | rfl | rfl; exact h.fd.1; exact h.fd.2.1; exact h.fd.2.2.1; exact hFdd,fun e => hone4 (by rw [← e]; exact hb)⟩)⟩)⟩
     · have hqo : (offQ 0#32 1#32 1#32 3 (sha sunL)).Ok := .off _ _ _ _ _ (by omega) (by omega) (sha_len _)
       refine (finishes_bad d f bb mb B sp wp dd g rb bk' kA 3 kc 0#32 1#32 1#32 3 x0 x1 s v img.length S P K A2 a2 LA' (t + 1) cl' (t + 1) _ er _ M' (t + 1) (sha sunL) H2 (pcs s K P S img) w7 hd7 hm7 hSt hs.cn hok (by omega) hs.sz hp.1 hs.len (pcs_len _ _ _ _ _) hds hfll hsm hst7 hs.ok hqo hH
         (fun i A n c ad e1 e2 => (h.low i A n c ad e1 e2).1) (by rw [hback]; exact he) (by have := hflg.num; omega) (by have := h.ere (toC (addL fls 1#32 id S t ((symL s K P S img id).drop 8))); omega) (h.ere _).1).mono ?_
       rintro e w' ⟨mb',st',rfl,hd',hm',hC',hf',hF⟩
       have hkk := hke7.fr hF (fun _ ad e => hkey4 ad e)
       have hsF := hF.size
       have hg3 := hflg.write (by omega) hqo
       have hml := Blk.lt hm'
       have hT' := hT7.keep hF hone4
       have hT1 : 1 < w'.heap.size := World.block_lt_of_cell? w' _ (hT' 0 (by omega))
       refine ⟨13,rfl,rfl,.inr (.inr ⟨he,rfl,fun b => b < w'.heap.size,⟨f,bb,mb',kA,kc,st',_,_,{
         dev := hd'
         key := hkk
         keyN := fun ad e => ⟨(h.keyN ad e).1,(h.keyN ad e).2.1,(h.keyN ad e).2.2.1⟩
         mem := hm'
         stc := hC'
         fla := hf'
         flg := hg3
         ere := fun i => by
           have := h.ere i
           unfold erMore
           split <;> omega
         sub := Sub.same hsub (fun j h1 h2 => write_high _ _ hqo _ (Nat.le_trans (by omega) h1))
         len := by simp [sunL]
         act := .inl ⟨rfl,rfl⟩
         ok := hqo
         off := rfl
         bl := fun h => by omega
         fd := ⟨hd'.lt,by have := hfl.1; have := hSt.base; omega,by have := hfl.2; have := hSt.base; omega,hml,hT1⟩
         fk := hkl hkk
         fh := hC'.blk
         big := ⟨h.big.1,h.big.2.1,h.big.2.2.1⟩
         tab := hT'
         lt := fun b hb => hb }⟩,hFw7.trans (hF.mono fun b _ hb => ⟨by rcases hb with rfl | rfl | rfl | rfl; exact h.fd.1; exact h.fd.2.1; exact h.fd.2.2.1; exact hFdd,fun e => hone4 (by rw [← e]; exact hb)⟩)⟩)⟩
def parF (s : B32) (K j k : Nat) : Row := fun i => decide (i = K + j) || (decide (i < k) && parB s j i)
theorem parF_step {R : Mat} (s : B32) (K j k : Nat) (hk : k < K) (he : Sp R (er k)) (h : Sp R (parF s K j (k + 1))) : Sp R (parF s K j k) := by
 cases hb : parB s j k with
 | true =>
   have e : parF s K j k = rx (parF s K j (k + 1)) (er k) := by
     funext i
     unfold parF rx er
     by_cases hi : i = k
     · subst hi
       have : ¬ i = K + j := by omega
       simp [this,hb]
     · have : decide (i < k + 1) = decide (i < k) := by simp; omega
       simp [hi,this]
   rw [e]
   exact h.sum he
 | false =>
   have e : parF s K j k = parF s K j (k + 1) := by
     funext i
     unfold parF
     by_cases hi : i = k
     · subst hi
       simp [hb]
     · have : decide (i < k + 1) = decide (i < k) := by simp; omega
       rw [this]
   rw [e]
   exact h
theorem parF_all {R : Mat} (s : B32) (K j : Nat) (he : ∀ i,i < K → Sp R (er i)) (h : Sp R (parF s K j K)) : Sp R (er (K + j)) := by
 have key : ∀ m,m ≤ K → Sp R (parF s K j (K - m)) := by
   intro m
   induction m with
   | zero => exact fun _ => h
   | succ n ih =>
     intro hm
     have h1 := ih (by omega)
     have e : K - n = (K - (n + 1)) + 1 := by omega
     rw [e] at h1
     exact parF_step s K j _ (by omega) (he _ (by omega)) h1
 have h0 := key K (Nat.le_refl _)
 have e : parF s K j (K - K) = er (K + j) := by
   funext i
   unfold parF er
   simp
 rw [e] at h0
 exact h0
theorem OnD.not {F : Nat → Prop} {w : World} {d : Nat} {s v : B32} {S P K : Nat} {H2 img : List UInt8} {put : List B32} (h : OnD F w d s v S P K H2 img put) (hs : Sess s v S P K H2 img) (ha : ∀ i,i < K → BitVec.ofNat 32 i ∈ put) : False := by
 obtain ⟨f,bb,mb,B,sp,wp,dd,g,rb,bk,kA,kc,x0,x1,A2,a2,LA,t,cl,fls,er_,rows,M,rank,h⟩ := h
 have hkp := hs.kp
 have hlow : ∀ i,i < K → Sp (toM M) (er i) := fun i hi => by
   obtain ⟨y,hy⟩ := h.puts _ (ha i hi)
   have h1 := h.sto.inv.span _ hy
   have e : bR (rowB s K P (BitVec.ofNat 32 i)) = er i := by
     funext j
     unfold rowB rowL
     have e1 : (BitVec.ofNat 32 i).toNat = i := by rw [BitVec.toNat_ofNat]; omega
     rw [if_pos (by omega),e1]
     unfold bR er
     by_cases hj : j < 64
     · rw [ofL_bit _ j hj]
       simp
     · rw [BitVec.getLsbD_of_ge _ _ (by omega)]
       have : j ≠ i := by omega
       simp [this]
   rw [← e]
   exact h1
 have hall := h.sto.inv.spans (fun i hi => by
   by_cases hk : i < K
   · exact hlow i hk
   · obtain ⟨j,rfl⟩ : ∃ j,i = K + j := ⟨i - K,by omega⟩
     obtain ⟨y,hy⟩ := h.par j (by omega)
     have h1 := h.sto.inv.span _ hy
     have e : bR (parX s K j K) = parF s K j K := by
       funext i
       unfold parF
       by_cases hi : i < 64
       · unfold bR
         rw [parX_bit s K j K i (Nat.le_refl _) hi]
       · unfold bR
         rw [BitVec.getLsbD_of_ge _ _ (by omega)]
         have h2 : ¬ i = K + j := by omega
         have h3 : ¬ i < K := by omega
         simp [h2,h3]
     rw [e] at h1
     exact parF_all s K j hlow h1)
 have := h.rk.2
 omega
def Mine (w w' : World) : Nat → Prop := fun b => b = 1 ∨ (w.heap.size ≤ b ∧ b < w'.heap.size)
theorem make_off (kA0 : Option Addr) (kc0 : Nat) (X : Option Addr) (c : Nat) (w : World) (hk : Rd w kA0 3 kc0 keyL) (hr : Rd w X 3 c sunL) (hT : Tab64 w) :
   Calls Tryz.prog 8 #[.slice kA0 3 kc0,.int .u32 (V 1#32),.slice X 3 c,.int .i64 100] w fun e w' => ∃ d,e = .returned (.tuple #[.pointer (some ⟨d,0,none⟩),.int .i64 0]) ∧ OffD (Mine w w') w' d (offQ 0#32 0#32 1#32 3 (sha sunL)) 1 sunL ∧ Below w.heap.size w w' := by
 have hq : (offQ 0#32 0#32 1#32 3 (sha sunL)).Ok := .off _ _ _ _ _ (by omega) (by omega) (sha_len _)
 have hT1 : 1 < w.heap.size := World.block_lt_of_cell? w _ (hT 0 (by omega))
 refine (make_any kA0 3 kc0 keyL 1#32 X 3 c sunL w hk (by omega) hr (by omega) (by omega) hq).mono ?_
 rintro e w' ⟨d,f,bb,mb,st,kA,kc,er,rfl,hd,hk',hm,hst,hf,h1,h2,h3,hsf,hB,h4,h5,h6⟩
 have hn := new_flash sunL (offQ 0#32 0#32 1#32 3 (sha sunL)) hq (by simp [sunL])
 have hfl : f < w'.heap.size := by obtain ⟨_,_,h⟩ := hf.blk; exact h.lt
 refine ⟨d,rfl,⟨f,bb,mb,kA,kc,st,_,er,{
   dev := hd
   key := hk'
   keyN := fun ad e => (h6 (by omega) ad e).2
   mem := hm
   stc := hst
   fla := hf
   flg := hn.fl
   ere := fun i => by have := h5 i; omega
   sub := hn.img
   len := by simp [sunL]
   act := .inl ⟨rfl,rfl⟩
   ok := hq
   off := rfl
   bl := fun _ => hn.blank
   fd := ⟨.inr ⟨h1,hd.lt⟩,.inr ⟨h2,hfl⟩,.inr ⟨h3,hf.2.1.lt⟩,.inr ⟨h4,Blk.lt hm⟩,.inl rfl⟩
   fk := fun ad e => .inr ⟨(h6 (by omega) ad e).1,by
     obtain ⟨ad',e2,h⟩ := hk'.ptr (by omega)
     cases e2.symm.trans e
     exact h⟩
   fh := fun i A n c ad e1 e2 => .inr ⟨hsf i _ e1 A n c rfl ad e2,hst.blk i A n c ad e1 e2⟩
   big := ⟨by omega,by omega,by omega⟩
   tab := hT.below hB
   lt := fun b hb => by
     have := hB.size
     rcases hb with rfl | hb
     · omega
     · exact hb.2 }⟩,hB⟩
theorem img_bd : ∀ L,L < 62 → 1 ≤ L → manOk L 4 2 = true ∧ 1 ≤ cnt L 4 ∧ cnt L 4 ≤ 16 := by decide
theorem imgOf_len (l : List UInt8) (x : UInt8) : 1 ≤ (imgOf l x).length ∧ (imgOf l x).length < 62 := by
 unfold imgOf
 rw [List.length_append,List.length_take,List.length_singleton]
 omega
theorem img_sess (one other : List UInt8) (h1 : 1 ≤ other.length) (h2 : other.length < 62) : Sess 7#32 10#32 4 2 (cnt other.length 4) (sha one) other where
 cn := rfl
 man := (img_bd _ h2 h1).1
 sz := by unfold Sz; omega
 len := by omega
 kp := by have := (img_bd _ h2 h1).2.2; omega
 h2 := sha_len _
 new := by decide
def Beside (U F : Nat → Prop) (w : World) (g : Nat) (key : List UInt8) (s v : B32) (S P K : Nat) (img : List UInt8) : Prop :=
 ∃ G,CarS G w g key s v S P K img ∧ (∀ b,F b → G b) ∧ (∀ b,U b → G b ∧ (F b → b = 1)) ∧ (∀ b,G b → b < w.heap.size)
theorem Beside.below {U F : Nat → Prop} {w w' : World} {g : Nat} {key : List UInt8} {s v : B32} {S P K : Nat} {img : List UInt8} (h : Beside U F w g key s v S P K img) (hB : Below w.heap.size w w') : Beside U F w' g key s v S P K img := by
 obtain ⟨G,h1,h2,h3,h4⟩ := h
 exact ⟨G,h1.step (F1 := G) (.of hB) (fun b k => .inl k),h2,h3,fun b k => Nat.lt_of_lt_of_le (h4 b k) hB.size⟩
theorem Beside.dev {U F F' : Nat → Prop} {w w' : World} {g : Nat} {key : List UInt8} {s v : B32} {S P K : Nat} {img : List UInt8} (h : Beside U F w g key s v S P K img) (hF : Fr (fun b => F b ∧ b ≠ 1) w w') (hg : ∀ b,F' b → F b ∨ w.heap.size ≤ b) (hl : ∀ b,F' b → b < w'.heap.size) : Beside U F' w' g key s v S P K img := by
 obtain ⟨G,h1,h2,h3,h4⟩ := h
 have hs := hF.size
 refine ⟨fun b => G b ∨ F' b,h1.step (hF.mono fun b _ hb => h2 b hb.1) (fun b k => ?_),fun b k => .inr k,fun b k => ⟨.inl (h3 b k).1,fun k2 => ?_⟩,fun b k => ?_⟩
 · rcases k with k | k
   · exact .inl k
   · rcases hg b k with k | k
     · exact .inl (h2 b k)
     · exact .inr k
 · rcases hg b k2 with k2 | k2
   · exact (h3 b k).2 k2
   · have := h4 b (h3 b k).1
     omega
 · rcases k with k | k
   · exact Nat.lt_of_lt_of_le (h4 b k) hs
   · exact hl b k
theorem Beside.sym {U F : Nat → Prop} {w : World} {g : Nat} {key : List UInt8} {s v : B32} {S P K : Nat} {img : List UInt8} (h : Beside U F w g key s v S P K img) (id : B32) (hok : spOk K P S = true) (hn : K + P ≤ 64) (hcn : cnt img.length S = K) :
   Calls Tryz.prog 13 #[.pointer (some ⟨g,0,none⟩),.int .u32 (V id)] w fun e w' => ∃ A c,e = .returned (.slice A (8 + S + 9 : Nat) c) ∧ Own w' w.heap.size 5 A (8 + S + 9) c (wrapL 2 (four s ++ four id ++ symV (pcs s K P S img) (rowOf (rowL s K P id)) (K + P) S)) ∧ Beside U F w' g key s v S P K img ∧ Fr (fun b => ¬ F b ∧ ¬ U b) w w' := by
 obtain ⟨G,h1,h2,h3,h4⟩ := h
 refine (csym_any G g key s v S P K img id w h1 h4 hok hn hcn).mono ?_
 rintro e w' ⟨A,c,rfl,ho,hc,h,hh,hF⟩
 refine ⟨A,c,rfl,ho,⟨G,hc,h2,h3,fun b k => Nat.lt_of_lt_of_le (h4 b k) hF.size⟩,hF.mono fun b _ hb => ?_⟩
 subst hb
 exact ⟨fun k => hh (h2 _ k),fun k => hh (h3 _ k).1⟩
theorem OffD.lt {F : Nat → Prop} {w : World} {d : Nat} {q : SSt} {k : Nat} {b : List UInt8} (h : OffD F w d q k b) : ∀ b,F b → b < w.heap.size := by
 obtain ⟨f,bb,mb,kA,kc,st,fls,er,h⟩ := h
 exact h.lt
theorem OnD.lt {F : Nat → Prop} {w : World} {d : Nat} {s v : B32} {S P K : Nat} {H2 img : List UInt8} {put : List B32} (h : OnD F w d s v S P K H2 img put) : ∀ b,F b → b < w.heap.size := by
 obtain ⟨f,bb,mb,B,sp,wp,dd,g,rb,bk,kA,kc,x0,x1,A2,a2,LA,t,cl,fls,er,rows,M,rank,h⟩ := h
 exact h.lt
def rainL : List UInt8 := [114,97,105,110]
theorem rain_sess : Sess 9#32 4#32 1 2 4 (sha rainL) rainL where
 cn := by decide
 man := by decide
 sz := by unfold Sz; omega
 len := by decide
 kp := by decide
 h2 := sha_len _
 new := by decide
def AwI (U : Nat → Prop) (w : World) (d g : Nat) (put : List B32) : Prop :=
 ∃ F,Beside U F w g keyL 9#32 4#32 1 2 4 rainL ∧ ((put = [] ∧ OffD F w d (offQ 0#32 0#32 1#32 3 (sha sunL)) 1 sunL) ∨ OnD F w d 9#32 4#32 1 2 4 (sha rainL) rainL put)
def AwO (U : Nat → Prop) (w : World) (d g : Nat) (put : List B32) : Prop :=
 ∃ F,Beside U F w g keyL 9#32 4#32 1 2 4 rainL ∧ OnD F w d 9#32 4#32 1 2 4 (sha rainL) rainL put
theorem AwI.below {U : Nat → Prop} {w w' : World} {d g : Nat} {put : List B32} (h : AwI U w d g put) (hB : Below w.heap.size w w') : AwI U w' d g put := by
 obtain ⟨F,h1,h2⟩ := h
 exact ⟨F,h1.below hB,h2.imp (fun k => ⟨k.1,k.2.below hB⟩) (fun k => k.below hB)⟩
theorem AwO.below {U : Nat → Prop} {w w' : World} {d g : Nat} {put : List B32} (h : AwO U w d g put) (hB : Below w.heap.size w w') : AwO U w' d g put := by
 obtain ⟨F,h1,h2⟩ := h
 exact ⟨F,h1.below hB,h2.below hB⟩
theorem AwI.first {U : Nat → Prop} {w : World} {d g : Nat} {put : List B32} (h : AwI U w d g put) :
   Calls Tryz.prog 10 #[.pointer (some ⟨g,0,none⟩)] w fun e w' => ∃ A c,e = .returned (.slice A 85 c) ∧ Rd w' A 85 c (wrapL 1 (manL keyL 9#32 4#32 rainL.length 1 2 (sha rainL))) ∧ AwI U w' d g put ∧ Fr (fun b => ¬ U b) w w' := by
 have h0 := h
 obtain ⟨F,⟨G,h1,_⟩,_⟩ := h0
 refine (cfirst_any G g keyL 9#32 4#32 1 2 4 rainL w h1 rain_sess.man rain_sess.len (by omega)).mono ?_
 rintro e w' ⟨A,c,rfl,ho,hB⟩
 exact ⟨A,c,rfl,ho.rd,h.below hB,.of hB⟩
theorem AwI.packet {U : Nat → Prop} {w : World} {d g : Nat} {put : List B32} (h : AwI U w d g put) (X : Option Addr) (c : Nat) (hr : Rd w X 85 c (wrapL 1 (manL keyL 9#32 4#32 rainL.length 1 2 (sha rainL)))) :
   Calls Tryz.prog 12 #[.pointer (some ⟨d,0,none⟩),.slice X 85 c] w fun e w' => ∃ r : Int,e = .returned (.int .i64 r) ∧ AwO U w' d g put ∧ Fr (fun b => ¬ U b) w w' := by
 obtain ⟨F,h1,⟨rfl,h2⟩ | h2⟩ := h
 · refine (h2.open_ 9#32 4#32 1 2 4 (sha rainL) rainL rain_sess X 85 c hr).mono ?_
   rintro e w' ⟨r,rfl,_,F',h3,hF,hg⟩
   exact ⟨r,rfl,⟨F',h1.dev hF hg h3.lt,h3⟩,hF.mono fun b _ hb k => by obtain ⟨G,_,_,h3,_⟩ := h1; exact hb.2 ((h3 b k).2 hb.1)⟩
 · refine (h2.again rain_sess X 85 c hr).mono ?_
   rintro e w' ⟨r,rfl,_,hB⟩
   exact ⟨r,rfl,AwO.below ⟨F,h1,h2⟩ hB,.of hB⟩
theorem AwO.sym {U : Nat → Prop} {w : World} {d g : Nat} {put : List B32} (h : AwO U w d g put) (id : B32) :
   Calls Tryz.prog 13 #[.pointer (some ⟨g,0,none⟩),.int .u32 (V id)] w fun e w' => ∃ A c,e = .returned (.slice A (18 : Nat) c) ∧ Rd w' A 18 c (wrapL 2 (symL 9#32 4 2 1 rainL id)) ∧ AwO U w' d g put ∧ Fr (fun b => ¬ U b) w w' := by
 obtain ⟨F,h1,h2⟩ := h
 refine (h1.sym id rain_sess.sp (by omega) rain_sess.cn).mono ?_
 rintro e w' ⟨A,c,rfl,ho,hb,hF⟩
 exact ⟨A,c,rfl,ho.rd,⟨F,hb,h2.step (hF.mono fun b _ hb => hb.1)⟩,hF.mono fun b _ hb => hb.2⟩
theorem AwO.hear {U : Nat → Prop} {w : World} {d g : Nat} {put : List B32} (h : AwO U w d g put) (id : B32) (hp : put.length < 3) (X : Option Addr) (c : Nat) (hr : Rd w X 18 c (wrapL 2 (symL 9#32 4 2 1 rainL id))) :
   Calls Tryz.prog 12 #[.pointer (some ⟨d,0,none⟩),.slice X 18 c] w fun e w' => ∃ r : Int,e = .returned (.int .i64 r) ∧ AwI U w' d g (put ++ [id]) ∧ Fr (fun b => ¬ U b) w w' := by
 obtain ⟨F,h1,h2⟩ := h
 refine (h2.symbol rain_sess id X 18 c hr).mono ?_
 rintro e w' ⟨r,rfl,h⟩
 rcases h with ⟨_,F',h3,hF,hg⟩ | ⟨_,hk,_⟩ | ⟨hne,_⟩
 · exact ⟨r,rfl,⟨F',h1.dev hF hg h3.lt,.inr h3⟩,hF.mono fun b _ hb k => by obtain ⟨G,_,_,h3,_⟩ := h1; exact hb.2 ((h3 b k).2 hb.1)⟩
 · rw [List.length_append,List.length_singleton] at hk
   omega
 · exact absurd rfl hne
theorem AwI.on {U : Nat → Prop} {w : World} {d g : Nat} {put : List B32} (h : AwI U w d g put) (hp : put ≠ []) : AwO U w d g put := by
 obtain ⟨F,h1,⟨h2,_⟩ | h2⟩ := h
 · exact absurd h2 hp
 · exact ⟨F,h1,h2⟩
theorem AwO.running {U : Nat → Prop} {w : World} {d g : Nat} {put : List B32} (h : AwO U w d g put) :
   Calls Tryz.prog 15 #[.pointer (some ⟨d,0,none⟩)] w fun e w' => ∃ A c,e = .returned (.slice A (3 : Nat) c) ∧ Rd w' A 3 c sunL ∧ Below w.heap.size w w' := by
 obtain ⟨F,_,h2⟩ := h
 exact h2.running rain_sess
theorem AwO.last {U : Nat → Prop} {w : World} {d g : Nat} {put : List B32} (h : AwO U w d g put) (id : B32) (hp : ∀ i,i < 4 → BitVec.ofNat 32 i ∈ put ++ [id]) (X : Option Addr) (c : Nat) (hr : Rd w X 18 c (wrapL 2 (symL 9#32 4 2 1 rainL id))) :
   Calls Tryz.prog 12 #[.pointer (some ⟨d,0,none⟩),.slice X 18 c] w fun e w' => ∃ r : Int,e = .returned (.int .i64 r) ∧ ∃ F',OffD F' w' d (twoQ 3 0#32 1#32 1#32 4#32 3 rainL.length (sha sunL) (sha rainL)) 3 rainL ∧ Fr (fun b => ¬ U b) w w' := by
 obtain ⟨F,h1,h2⟩ := h
 refine (h2.symbol rain_sess id X 18 c hr).mono ?_
 rintro e w' ⟨r,rfl,h⟩
 rcases h with ⟨_,F',h3,hF,hg⟩ | ⟨_,hk,_,F',h3,hF⟩ | ⟨hne,_⟩
 · exact absurd (fun i hi => hp i hi) (fun k => h3.not rain_sess k)
 · exact ⟨r,rfl,F',h3,hF.mono fun b _ hb k => by obtain ⟨G,_,_,h3,_⟩ := h1; exact hb.2 ((h3 b k).2 hb.1)⟩
 · exact absurd rfl hne
end Go.Proofs.YtkkcpblfheplaaaGreatDoor
